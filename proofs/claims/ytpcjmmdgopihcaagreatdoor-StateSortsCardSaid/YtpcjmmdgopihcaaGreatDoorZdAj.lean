/- Texts of this claim, merged by program: As Pb Ja Jb Jc Jd Je Jf Jg Jh EvX Ji Jj Jk Jl Jm Jn Jo Jp Va Vb Vc Ia Ib. -/
import Derived.Test.YtpcjmmdgopihcaaGreatDoorZdAi
import Derived.Test.YtpcjmmdgopihcaaGreatDoorZdAd
import Derived.Test.YtpcjmmdgopihcaaGreatDoorZdAf
import Derived.Test.YtpcjmmdgopihcaaGreatDoorZdAe
import Derived.Laws.Bits64b
set_option linter.unusedSimpArgs false
set_option linter.unusedVariables false
namespace Go.Ev
theorem Ac.cells_sv {x : Ac} {sv sv' : Value} (h : x.cells sv = x.cells sv') : sv = sv' := by
  have h1 := x.slo26 sv
  rw [h, x.slo26 sv'] at h1
  simpa using h1.symm
theorem Ch.zeroL : Ch.zero.cells = [.int .i64 0, .int .u8 0, .int .u8 0, .int .u8 0, .int .u8 0, .int .u8 0, .int .u8 0, .int .u8 0, .int .u8 0, .int .u8 0, .int .u8 0, .int .u8 0, .int .u8 0, .int .u8 0, .int .u8 0, .int .u8 0, .int .u8 0, .int .u8 0, .int .u8 0, .int .u8 0, .int .u8 0, .int .u64 0, .int .u64 0, .int .u64 0, .int .u64 0, .int .u64 0, .int .u64 0, .int .u64 0, .int .u64 0, .int .i64 0, .string .empty] := rfl
end Go.Ev
namespace Go.Proofs.YtpcjmmdgopihcaaGreatDoor
open Go Go.Ev Go.Proofs
set_option maxRecDepth 100000
set_option maxHeartbeats 4000000
def plSDo : Plans := fun i => if i = 1 then [(0, 9)] else if i = 3 then [] else if i = 4 then [(0, 9)] else if i = 5 then [(0, 9)] else if i = 6 then [(0, 9)] else if i = 8 then [(0, 9)] else Tryz.pl25 i
attribute [push_cast] plSDo
theorem sdo_ok {M : Hp} {s : List Ac} {v : Value} {c : Ch} (hv : StR s v M) (hn : s.length ≤ 1000000000) (hsl' : ∀ y ∈ s, y.slots.length ≤ 1000000000000) : CallsW Tryz.prog 25 [v, c.v] M (DoO 31 (doS s c)) := by
  intro M0 hr he
  have hm := hr.marks
  replace hv := StR.rd _ _ _ _ he.symm hv
  obtain ⟨p, k, hvv⟩ : ∃ p k, v = .slice p s.length k := by
    obtain ⟨L, h1, h2, -⟩ := hv
    obtain ⟨p, k, h3⟩ := h2.slice
    exact ⟨p, k, by rw [h3, ← h1, List.length_map]⟩
  subst hvv
  refine callsO gA1_ok Tryz.mix plSDo Tryz.func25 rfl Tryz.ntmps25 Tryz.results25 rfl (by first | rfl | assumption) (Nat.le_of_ble_eq_true rfl) (by kernel_rfl) ?_
  simp only [push_cast, seval, reduceCtorEq]
  intro b3 hb3 b5 hb5
  have f3 : fresh b3 M0 := hb3
  have f5 : fresh b5 M0 := hb5.2.2
  refine regO gA1_ok ?_
  simp only [push_cast, seval, reduceCtorEq, hb5]
  refine useP [_, _] (fun M1 hr1 he1 => sright_ok (StR.rd _ _ _ _ he1.symm hv) hr1.marks (by omega)) ⟨f5, f3, trivial⟩ ?_
  cases hrs : rightS s
  case false =>
    have e : doS s c = (s, Ch.zero, 1) := by unfold doS; rw [if_pos hrs]
    rw [e]
    simp only [push_cast, seval, reduceCtorEq, hb5]
    refine useB [_, _] (mapped_ok hv hn hsl') (StO.rd _ _) hm ⟨f5, f3, trivial⟩ fun w N M1 hg hf hL hw hmN hq => ?_
    simp only [push_cast, seval, reduceCtorEq, hb5]
    exact doneN [_, _] hg hw hmN hf (DoO.rd _ _) ⟨_, rfl, hq⟩
  simp only [push_cast, seval, reduceCtorEq, hb5]
  obtain ⟨x, hx⟩ : ∃ x, x = findS s c.at_ := ⟨_, rfl⟩
  have hri := rightS_iff.1 hrs
  have hxm : mayA x = true := by rw [hx]; exact hri.findMay _
  have hxl := (mayA_slots hxm).len
  have hxl4 : x.slots.length ≤ 4000 := by omega
  obtain ⟨x', u, e, hch⟩ : ∃ x' u e, chA x c = (x', u, e) := ⟨_, _, _, rfl⟩
  have hLX : freshN [⟨b5, 0, .cel 33, Ch.zero.cells⟩, ⟨b3, 0, .cel 33, c.cells⟩] M0 := ⟨f5, f3, trivial⟩
  have f3 : findE (⟨b5, 0, .cel 33, Ch.zero.cells⟩ :: ⟨b3, 0, .cel 33, c.cells⟩ :: M0) b3 = some ⟨b3, 0, .cel 33, c.cells⟩ := by
    simp only [push_cast, seval, reduceCtorEq, hb5]
  rw [← Ch.zeroL]
  refine drawS gA1_ok Tryz.mix [(0, .slice p s.length k), (3, .pointer (some ⟨b3, 0, none⟩)), (5, .pointer (some ⟨b5, 0, none⟩))]
      (fun i val => match i with
        | 0 => val 0 = .slice p s.length k
        | 1 => val 1 = .pointer (some ⟨b3, 1, none⟩)
        | 2 => val 2 = c.at_.v
        | 3 => ∃ p k, val 3 = .agg (x.cells (Value.slice p x.slots.length k)).toArray
        | 4 => val 4 = c.v
        | 5 => ∃ p k, val 5 = .tuple #[.agg (x'.cells (Value.slice p x'.slots.length k)).toArray, u.v, .int .i64 e]
        | 6 => val 6 = val 5 ∧ ∃ p k, val 5 = .tuple #[.agg (x'.cells (Value.slice p x'.slots.length k)).toArray, u.v, .int .i64 e]
        | 7 => ∃ p k, val 7 = .agg (x'.cells (Value.slice p x'.slots.length k)).toArray ∧ val 6 = .tuple #[val 7, u.v, .int .i64 e]
        | 8 => val 8 = u.v
        | 9 => val 9 = .int .i64 e
        | 10 => ∃ b, val 10 = .pointer (some ⟨b, 0, none⟩)
        | 11 => ∃ b, val 11 = .pointer (some ⟨b, 0, none⟩)
        | 14 => val 14 = .int .i64 e
        | _ => True)
      (fun i val N => match i with
        | 3 => allWr N ∧ marksOf N = [] ∧ AcR x (val 3) (N ++ M0)
        | 5 => allWr N ∧ marksOf N = [] ∧ ChR (x', u, e) (val 5) (N ++ M0)
        | 6 => N = []
        | 7 => N = []
        | 10 => ∃ b, val 10 = .pointer (some ⟨b, 0, none⟩) ∧ N = [⟨b, 0, .cel 31, Ac.zeroC⟩]
        | 11 => ∃ b, val 11 = .pointer (some ⟨b, 0, none⟩) ∧ N = [⟨b, 0, .cel 33, Ch.zero.cells⟩]
        | 12 => ∃ b p k, val 10 = .pointer (some ⟨b, 0, none⟩) ∧ val 7 = .agg (x'.cells (Value.slice p x'.slots.length k)).toArray ∧ N = [⟨b, 0, .cel 31, x'.cells (Value.slice p x'.slots.length k)⟩]
        | 13 => ∃ b, val 11 = .pointer (some ⟨b, 0, none⟩) ∧ N = [⟨b, 0, .cel 33, u.cells⟩]
        | _ => N = []) (fun i => if i = 5 then [3] else if i = 12 then [10] else if i = 13 then [11] else []) [5, 12, 13] (by kernel_rfl) (by kernel_rfl) (by kernel_rfl) ?_ (by rfl) (by decide) (by kernel_rfl) ?_ ?_ ?_ ?_ ?_
  · simp only [push_cast, seval, reduceCtorEq, subT]
  · intro i hi hiF
    replace hi : i < 15 := hi
    obtain rfl | rfl | rfl | rfl | rfl | rfl | rfl | rfl | rfl | rfl | rfl | rfl | rfl | rfl | rfl : i = 0 ∨ i = 1 ∨ i = 2 ∨ i = 3 ∨ i = 4 ∨ i = 5 ∨ i = 6 ∨ i = 7 ∨ i = 8 ∨ i = 9 ∨ i = 10 ∨ i = 11 ∨ i = 12 ∨ i = 13 ∨ i = 14 := by omega
    all_goals first
      | exact .inl fun _ _ h => h
      | exact absurd (by decide) hiF
      | exact .inr (by kernel_rfl)
  · intro i o ho val val' h1 h2 hV
    have hi := (Array.getElem?_eq_some_iff.1 ho).1
    replace hi : i < 15 := hi
    obtain rfl | rfl | rfl | rfl | rfl | rfl | rfl | rfl | rfl | rfl | rfl | rfl | rfl | rfl | rfl : i = 0 ∨ i = 1 ∨ i = 2 ∨ i = 3 ∨ i = 4 ∨ i = 5 ∨ i = 6 ∨ i = 7 ∨ i = 8 ∨ i = 9 ∨ i = 10 ∨ i = 11 ∨ i = 12 ∨ i = 13 ∨ i = 14 := by omega
    · first
        | exact trivial
        | exact hV
        | exact h1.trans hV
        | (rw [h1]; exact hV)
    · first
        | exact trivial
        | exact hV
        | exact h1.trans hV
        | (rw [h1]; exact hV)
    · first
        | exact trivial
        | exact hV
        | exact h1.trans hV
        | (rw [h1]; exact hV)
    · first
        | exact trivial
        | exact hV
        | exact h1.trans hV
        | (rw [h1]; exact hV)
    · first
        | exact trivial
        | exact hV
        | exact h1.trans hV
        | (rw [h1]; exact hV)
    · first
        | exact trivial
        | exact hV
        | exact h1.trans hV
        | (rw [h1]; exact hV)
    · simp only [List.getElem?_toArray, List.getElem?_cons_zero, List.getElem?_cons_succ, Option.some.injEq] at ho; subst ho
      have h5 := h2 5 (by kernel_rfl)
      obtain ⟨a1, p5, k5, a2⟩ := hV
      exact ⟨by rw [h1, h5]; exact a1, p5, k5, by rw [h5]; exact a2⟩
    · simp only [List.getElem?_toArray, List.getElem?_cons_zero, List.getElem?_cons_succ, Option.some.injEq] at ho; subst ho
      have h6 := h2 6 (by kernel_rfl)
      obtain ⟨p5, k5, a1, a2⟩ := hV
      exact ⟨p5, k5, by rw [h1]; exact a1, by rw [h6, h1]; exact a2⟩
    · first
        | exact trivial
        | exact hV
        | exact h1.trans hV
        | (rw [h1]; exact hV)
    · first
        | exact trivial
        | exact hV
        | exact h1.trans hV
        | (rw [h1]; exact hV)
    · first
        | exact trivial
        | exact hV
        | exact h1.trans hV
        | (rw [h1]; exact hV)
    · first
        | exact trivial
        | exact hV
        | exact h1.trans hV
        | (rw [h1]; exact hV)
    · first
        | exact trivial
        | exact hV
        | exact h1.trans hV
        | (rw [h1]; exact hV)
    · first
        | exact trivial
        | exact hV
        | exact h1.trans hV
        | (rw [h1]; exact hV)
    · first
        | exact trivial
        | exact hV
        | exact h1.trans hV
        | (rw [h1]; exact hV)
  · intro i o ho val val' N h1 h2 hQ
    have hi := (Array.getElem?_eq_some_iff.1 ho).1
    replace hi : i < 15 := hi
    obtain rfl | rfl | rfl | rfl | rfl | rfl | rfl | rfl | rfl | rfl | rfl | rfl | rfl | rfl | rfl : i = 0 ∨ i = 1 ∨ i = 2 ∨ i = 3 ∨ i = 4 ∨ i = 5 ∨ i = 6 ∨ i = 7 ∨ i = 8 ∨ i = 9 ∨ i = 10 ∨ i = 11 ∨ i = 12 ∨ i = 13 ∨ i = 14 := by omega
    · first
        | exact trivial
        | exact hQ
        | exact h1.trans hQ
        | (rw [h1]; exact hQ)
    · first
        | exact trivial
        | exact hQ
        | exact h1.trans hQ
        | (rw [h1]; exact hQ)
    · first
        | exact trivial
        | exact hQ
        | exact h1.trans hQ
        | (rw [h1]; exact hQ)
    · first
        | exact trivial
        | exact hQ
        | exact h1.trans hQ
        | (rw [h1]; exact hQ)
    · first
        | exact trivial
        | exact hQ
        | exact h1.trans hQ
        | (rw [h1]; exact hQ)
    · first
        | exact trivial
        | exact hQ
        | exact h1.trans hQ
        | (rw [h1]; exact hQ)
    · first
        | exact trivial
        | exact hQ
        | exact h1.trans hQ
        | (rw [h1]; exact hQ)
    · first
        | exact trivial
        | exact hQ
        | exact h1.trans hQ
        | (rw [h1]; exact hQ)
    · first
        | exact trivial
        | exact hQ
        | exact h1.trans hQ
        | (rw [h1]; exact hQ)
    · first
        | exact trivial
        | exact hQ
        | exact h1.trans hQ
        | (rw [h1]; exact hQ)
    · first
        | exact trivial
        | exact hQ
        | exact h1.trans hQ
        | (rw [h1]; exact hQ)
    · first
        | exact trivial
        | exact hQ
        | exact h1.trans hQ
        | (rw [h1]; exact hQ)
    · simp only [List.getElem?_toArray, List.getElem?_cons_zero, List.getElem?_cons_succ, Option.some.injEq] at ho; subst ho
      have h10 := h2 10 (by kernel_rfl)
      have h7 := h2 7 (by kernel_rfl)
      obtain ⟨b, p, k, a1, a2, a3⟩ := hQ
      exact ⟨b, p, k, by rw [h10]; exact a1, by rw [h7]; exact a2, a3⟩
    · simp only [List.getElem?_toArray, List.getElem?_cons_zero, List.getElem?_cons_succ, Option.some.injEq] at ho; subst ho
      have h11 := h2 11 (by kernel_rfl)
      obtain ⟨b, a1, a3⟩ := hQ
      exact ⟨b, by rw [h11]; exact a1, a3⟩
    · first
        | exact trivial
        | exact hQ
        | exact h1.trans hQ
        | (rw [h1]; exact hQ)
  · intro i o ho T' Y val mem hT hdep hus hfr hY hmY hapY
    have hi := (Array.getElem?_eq_some_iff.1 ho).1
    replace hi : i < 15 := hi
    have y3 := hY _ _ f3
    have hM0Y : ∀ b e, findE M0 b = some e → findE Y b = some e := fun b e h => hY b e (find_behind hLX b e h)
    have t0 : getT T' 0 = some (.slice p s.length k) := hT.1
    have t3 : getT T' 3 = some (.pointer (some ⟨b3, 0, none⟩)) := hT.2.1
    obtain rfl | rfl | rfl | rfl | rfl | rfl | rfl | rfl | rfl | rfl | rfl | rfl | rfl | rfl | rfl : i = 0 ∨ i = 1 ∨ i = 2 ∨ i = 3 ∨ i = 4 ∨ i = 5 ∨ i = 6 ∨ i = 7 ∨ i = 8 ∨ i = 9 ∨ i = 10 ∨ i = 11 ∨ i = 12 ∨ i = 13 ∨ i = 14 := by omega
    · simp only [List.getElem?_toArray, List.getElem?_cons_zero, List.getElem?_cons_succ, Option.some.injEq] at ho; subst ho
      simp only [push_cast, seval, reduceCtorEq, List.flatMap_nil, List.flatMap_cons, List.append_nil, List.nil_append, t0]
      exact ⟨[], rfl, trivial, rfl, upd_self _ _ _, rfl⟩
    · simp only [List.getElem?_toArray, List.getElem?_cons_zero, List.getElem?_cons_succ, Option.some.injEq] at ho; subst ho
      simp only [push_cast, seval, reduceCtorEq, List.flatMap_nil, List.flatMap_cons, List.append_nil, List.nil_append, t3]
      exact ⟨[], rfl, trivial, rfl, upd_self _ _ _, rfl⟩
    · simp only [List.getElem?_toArray, List.getElem?_cons_zero, List.getElem?_cons_succ, Option.some.injEq] at ho; subst ho
      obtain ⟨v1, g1⟩ := hdep 1 (by kernel_rfl)
      replace g1 := g1 19 rfl
      rw [show val 1 = _ from v1] at g1
      simp only [push_cast, seval, reduceCtorEq, List.flatMap_nil, List.flatMap_cons, List.append_nil, List.nil_append, g1, y3]
      exact ⟨[], rfl, trivial, rfl, upd_self _ _ _, rfl⟩
    · simp only [List.getElem?_toArray, List.getElem?_cons_zero, List.getElem?_cons_succ, Option.some.injEq] at ho; subst ho
      obtain ⟨v0, g0⟩ := hdep 0 (by kernel_rfl)
      replace g0 := g0 18 rfl
      rw [show val 0 = _ from v0] at g0
      obtain ⟨v2, g2⟩ := hdep 2 (by kernel_rfl)
      replace g2 := g2 20 rfl
      rw [show val 2 = _ from v2] at g2
      simp only [push_cast, seval, reduceCtorEq, List.flatMap_nil, List.flatMap_cons, List.append_nil, List.nil_append, g0, g2]
      refine callS (M := M0) (by have := sfind_ok (a := c.at_) hv hn hsl'; rw [← hx] at this; exact this) (AcR.rd _) hM0Y fun w N hw hm1 hf hq => ⟨N, rfl, hw, hm1, ?_, ?_⟩
      · obtain ⟨sv, rfl, hsv⟩ := hq
        obtain ⟨p1, k1, rfl⟩ := hsv.slice
        exact ⟨p1, k1, by rw [upd_self]⟩
      · rw [upd_self]; exact ⟨hw, hm1, hq⟩
    · simp only [List.getElem?_toArray, List.getElem?_cons_zero, List.getElem?_cons_succ, Option.some.injEq] at ho; subst ho
      simp only [push_cast, seval, reduceCtorEq, List.flatMap_nil, List.flatMap_cons, List.append_nil, List.nil_append, t3, y3]
      exact ⟨[], rfl, trivial, rfl, upd_self _ _ _, rfl⟩
    · simp only [List.getElem?_toArray, List.getElem?_cons_zero, List.getElem?_cons_succ, Option.some.injEq] at ho; subst ho
      obtain ⟨v3, g3⟩ := hdep 3 (by kernel_rfl)
      replace g3 := g3 21 rfl
      obtain ⟨v4, g4⟩ := hdep 4 (by kernel_rfl)
      replace g4 := g4 22 rfl
      rw [show val 4 = _ from v4] at g4
      obtain ⟨p3, k3, v3⟩ := v3
      obtain ⟨w3, m3, sv3, hq3a, hq3⟩ := hus 3 (List.mem_singleton.2 rfl)
      have v3 : val 3 = _ := v3
      have hq3a : val 3 = _ := hq3a
      rw [hq3a] at v3
      have hsv3 : sv3 = Value.slice p3 x.slots.length k3 := Ac.cells_sv (by injection v3 with h; simpa using congrArg Array.toList h)
      subst hsv3
      rw [hq3a] at g3
      have fr3 : freshN (mem 3) Y := by simpa using hfr
      simp only [push_cast, seval, reduceCtorEq, List.flatMap_nil, List.flatMap_cons, List.append_nil, List.nil_append, g3, g4]
      refine callS (M := mem 3 ++ M0) (by have := changed_ok (c := c) hq3 hxl4; rw [hch] at this; exact this) (ChR.rd _) (find_front hM0Y) fun w N hw hm1 hf hq => ⟨N ++ mem 3, by rw [List.append_assoc], allWr_app hw w3, by rw [marks_append, hm1, m3]; rfl, ?_, ?_⟩
      · obtain ⟨sv, rfl, hsv⟩ := hq
        obtain ⟨p1, k1, rfl⟩ := hsv.slice
        exact ⟨p1, k1, by rw [upd_self]⟩
      · rw [upd_self]
        refine ⟨allWr_app hw w3, by rw [marks_append, hm1, m3]; rfl, ?_⟩
        rw [List.append_assoc]; exact hq
    · simp only [List.getElem?_toArray, List.getElem?_cons_zero, List.getElem?_cons_succ, Option.some.injEq] at ho; subst ho
      obtain ⟨v5, g5⟩ := hdep 5 (by kernel_rfl)
      replace g5 := g5 23 rfl
      simp only [push_cast, seval, reduceCtorEq, List.flatMap_nil, List.flatMap_cons, List.append_nil, List.nil_append, g5]
      obtain ⟨p5, k5, v5⟩ := v5
      refine ⟨[], rfl, trivial, rfl, ⟨?_, p5, k5, ?_⟩, rfl⟩
      · simp [upd]
      · simpa [upd] using v5
    · simp only [List.getElem?_toArray, List.getElem?_cons_zero, List.getElem?_cons_succ, Option.some.injEq] at ho; subst ho
      obtain ⟨v6, g6⟩ := hdep 6 (by kernel_rfl)
      replace g6 := g6 17 rfl
      obtain ⟨v6, p5, k5, v5⟩ := v6
      have v6 : val 6 = _ := v6
      rw [v6, v5] at g6
      simp only [push_cast, seval, reduceCtorEq, List.flatMap_nil, List.flatMap_cons, List.append_nil, List.nil_append, g6]
      refine ⟨[], rfl, trivial, rfl, ⟨p5, k5, ?_, ?_⟩, rfl⟩
      · simp [upd]
      · simp [upd, v6, v5]
    · simp only [List.getElem?_toArray, List.getElem?_cons_zero, List.getElem?_cons_succ, Option.some.injEq] at ho; subst ho
      obtain ⟨v6, g6⟩ := hdep 6 (by kernel_rfl)
      replace g6 := g6 17 rfl
      obtain ⟨v6, p5, k5, v5⟩ := v6
      have v6 : val 6 = _ := v6
      rw [v6, v5] at g6
      simp only [push_cast, seval, reduceCtorEq, List.flatMap_nil, List.flatMap_cons, List.append_nil, List.nil_append, g6]
      exact ⟨[], rfl, trivial, rfl, upd_self _ _ _, rfl⟩
    · simp only [List.getElem?_toArray, List.getElem?_cons_zero, List.getElem?_cons_succ, Option.some.injEq] at ho; subst ho
      obtain ⟨v6, g6⟩ := hdep 6 (by kernel_rfl)
      replace g6 := g6 17 rfl
      obtain ⟨v6, p5, k5, v5⟩ := v6
      have v6 : val 6 = _ := v6
      rw [v6, v5] at g6
      simp only [push_cast, seval, reduceCtorEq, List.flatMap_nil, List.flatMap_cons, List.append_nil, List.nil_append, g6]
      exact ⟨[], rfl, trivial, rfl, upd_self _ _ _, rfl⟩
    · simp only [List.getElem?_toArray, List.getElem?_cons_zero, List.getElem?_cons_succ, Option.some.injEq] at ho; subst ho
      simp only [push_cast, seval, reduceCtorEq, List.flatMap_nil, List.flatMap_cons, List.append_nil, List.nil_append]
      intro b hf
      exact ⟨[_], rfl, ⟨trivial, trivial⟩, rfl, ⟨b, upd_self _ _ _⟩, b, upd_self _ _ _, rfl⟩
    · simp only [List.getElem?_toArray, List.getElem?_cons_zero, List.getElem?_cons_succ, Option.some.injEq] at ho; subst ho
      simp only [push_cast, seval, reduceCtorEq, List.flatMap_nil, List.flatMap_cons, List.append_nil, List.nil_append]
      intro b hf
      exact ⟨[_], rfl, ⟨trivial, trivial⟩, rfl, ⟨b, upd_self _ _ _⟩, b, upd_self _ _ _, rfl⟩
    · simp only [List.getElem?_toArray, List.getElem?_cons_zero, List.getElem?_cons_succ, Option.some.injEq] at ho; subst ho
      obtain ⟨v7, g7⟩ := hdep 7 (by kernel_rfl)
      replace g7 := g7 24 rfl
      obtain ⟨v10, g10⟩ := hdep 10 (by kernel_rfl)
      replace g10 := g10 7 rfl
      obtain ⟨p7, k7, v7, -⟩ := v7
      have v7 : val 7 = _ := v7
      rw [v7] at g7
      obtain ⟨b10, v10, hN⟩ := hus 10 (List.mem_singleton.2 rfl)
      have v10 : val 10 = _ := v10
      rw [v10] at g10
      simp only [push_cast, seval, reduceCtorEq, List.flatMap_nil, List.flatMap_cons, List.append_nil, List.nil_append, g7, g10, hN, List.cons_append, Ac.zeroC]
      refine ⟨[_], rfl, ⟨trivial, trivial⟩, rfl, b10, p7, k7, ?_, ?_, rfl⟩
      · simp [upd, v10]
      · simp [upd, v7]
    · simp only [List.getElem?_toArray, List.getElem?_cons_zero, List.getElem?_cons_succ, Option.some.injEq] at ho; subst ho
      obtain ⟨v8, g8⟩ := hdep 8 (by kernel_rfl)
      replace g8 := g8 25 rfl
      rw [show val 8 = _ from v8] at g8
      obtain ⟨v11, g11⟩ := hdep 11 (by kernel_rfl)
      replace g11 := g11 8 rfl
      obtain ⟨b11, v11, hN⟩ := hus 11 (List.mem_singleton.2 rfl)
      have v11 : val 11 = _ := v11
      rw [v11] at g11
      simp only [push_cast, seval, reduceCtorEq, List.flatMap_nil, List.flatMap_cons, List.append_nil, List.nil_append, g8, g11, hN, List.cons_append, Ch.zeroL]
      exact ⟨[_], rfl, ⟨trivial, trivial⟩, rfl, b11, by simp [upd, v11], rfl⟩
    · simp only [List.getElem?_toArray, List.getElem?_cons_zero, List.getElem?_cons_succ, Option.some.injEq] at ho; subst ho
      obtain ⟨v9, g9⟩ := hdep 9 (by kernel_rfl)
      replace g9 := g9 26 rfl
      rw [show val 9 = _ from v9] at g9
      simp only [push_cast, seval, reduceCtorEq, List.flatMap_nil, List.flatMap_cons, List.append_nil, List.nil_append, g9]
      exact ⟨[], rfl, trivial, rfl, upd_self _ _ _, rfl⟩
  · intro val mem hV hQ hap hwr
    obtain ⟨p5, k5, v5⟩ := hV 5 (by decide)
    obtain ⟨w5, m5, sv5, hq5a, hq5⟩ := hQ 5 (by decide)
    obtain ⟨b7, p7, k7, v10, v7, hN12⟩ := hQ 12 (by decide)
    obtain ⟨b8, v11, hN13⟩ := hQ 13 (by decide)
    obtain ⟨h6, -⟩ := hV 6 (by decide)
    obtain ⟨-, -, -, h76⟩ := hV 7 (by decide)
    have v8 : val 8 = u.v := hV 8 (by decide)
    have v9 : val 9 = .int .i64 e := hV 9 (by decide)
    have v14 : val 14 = .int .i64 e := hV 14 (by decide)
    have v10 : val 10 = _ := v10
    have v11 : val 11 = _ := v11
    have v7 : val 7 = _ := v7
    have hq5a : val 5 = _ := hq5a
    have h6 : val 6 = val 5 := h6
    have h76 : val 6 = .tuple #[val 7, u.v, .int .i64 e] := h76
    rw [h6, hq5a, v7] at h76
    have hs5 : sv5 = Value.slice p7 x'.slots.length k7 := Ac.cells_sv (by injection h76 with h; have h1 := congrArg Array.toList h; simp only [List.cons.injEq, Value.agg.injEq] at h1; simpa using congrArg Array.toList h1.1)
    subst hs5
    have hMM : List.flatMap mem [5, 12, 13] ++ (⟨b5, 0, .cel 33, Ch.zero.cells⟩ :: ⟨b3, 0, .cel 33, c.cells⟩ :: M0) = mem 5 ++ (⟨b7, 0, .cel 31, x'.cells (Value.slice p7 x'.slots.length k7)⟩ :: ⟨b8, 0, .cel 33, u.cells⟩ :: ⟨b5, 0, .cel 33, Ch.zero.cells⟩ :: ⟨b3, 0, .cel 33, c.cells⟩ :: M0) := by
      simp only [List.flatMap_cons, List.flatMap_nil, List.append_nil, hN12, hN13, List.append_assoc, List.cons_append, List.nil_append]
    rw [hMM] at hap ⊢
    have a5 := freshN_apart hap w5
    have hap' := (List.pairwise_append.1 hap).2.1
    have a7 := freshN_apart (A := [⟨b7, 0, .cel 31, x'.cells (Value.slice p7 x'.slots.length k7)⟩]) hap' ⟨trivial, trivial⟩
    have a8 := freshN_apart (A := [⟨b8, 0, .cel 33, u.cells⟩]) (List.pairwise_cons.1 hap').2 ⟨trivial, trivial⟩
    have q57 := freshN_sym a5
    have hb7 := a7.1
    have hb8 := a8.1
    simp only [push_cast, seval, reduceCtorEq] at hb7 hb8
    have f70 : fresh b7 (M0 ++ mem 5) := fresh_app_iff.2 ⟨hb7.2.2.2.2.2.2, q57.1⟩
    have f80 : fresh b8 (M0 ++ mem 5) := fresh_app_iff.2 ⟨hb8.2.2.2.2, q57.2.1⟩
    have f50 : fresh b5 (M0 ++ mem 5) := fresh_app_iff.2 ⟨f5, q57.2.2.1⟩
    have f30 : fresh b3 (M0 ++ mem 5) := fresh_app_iff.2 ⟨hb3, q57.2.2.2.1⟩
    have hg1 : Gr M0 (M0 ++ mem 5) := ⟨hm, mem 5, rfl, w5, m5⟩
    have hl5 : LiR Sl.cells 8 (M0 ++ mem 5) x'.slots (Value.slice p7 x'.slots.length k7) := hq5.congr (cellsAt_swap (freshN_cons (freshN_cons (freshN_cons (freshN_cons a5)))))
    simp only [push_cast, seval, reduceCtorEq, v7, v8, v9, v10, v11, v14]
    refine WpV.perm (H' := ⟨b7, 0, .cel 31, x'.cells (Value.slice p7 x'.slots.length k7)⟩ :: ⟨b8, 0, .cel 33, u.cells⟩ :: ⟨b5, 0, .cel 33, Ch.zero.cells⟩ :: ⟨b3, 0, .cel 33, c.cells⟩ :: (M0 ++ mem 5)) ?_ ?_ ?_
    · exact List.perm_append_comm
    · simp [marks_append, marksOf, m5, hm]
    refine WpV.slots [(0, .slice p s.length k), (5, .pointer (some ⟨b5, 0, none⟩)), (7, .pointer (some ⟨b7, 0, none⟩)), (8, .pointer (some ⟨b8, 0, none⟩)), (9, .int .i64 e)] (by simp only [push_cast, seval, reduceCtorEq]) ?_
    generalize M0 ++ mem 5 = M1 at hg1 hl5 f70 f80 f50 f30 ⊢
    have hv1 : StR s (.slice p s.length k) M1 := hv.ext hg1.ext
    refine regO gA1_ok ?_
    have hx3 : (chA (findS s c.at_) c).1 = x' := by rw [← hx, hch]
    have hu3 : (chA (findS s c.at_) c).2.1 = u := by rw [← hx, hch]
    have hc3 : (chA (findS s c.at_) c).2.2 = e := by rw [← hx, hch]
    by_cases hz0 : e = 0
    case neg =>
      have hz1 : (e != 0) = true := by rw [bne_iff_ne]; exact hz0
      have hdo : doS s c = (s, Ch.zero, e) := by
        unfold doS
        rw [if_neg (by rw [hrs]; simp), hc3, if_pos hz0]
      rw [hdo]
      simp only [push_cast, seval, reduceCtorEq, hz1]
      refine regO gA1_ok ?_
      simp only [push_cast, seval, reduceCtorEq]
      refine useB [_, _, _, _] (mapped_ok hv1 hn hsl') (StO.rd _ _) hg1.marks ⟨f70, f80, f50, f30, trivial⟩ fun w N8 M8 hg8 hf8 hL8 hw8 hm8 hq8 => ?_
      simp only [push_cast, seval, reduceCtorEq, hb5, hb7, hb8]
      exact doneN [_, _, _, _] (hg1.trans hg8) hw8 hm8 hf8 (DoO.rd _ _) ⟨_, rfl, hq8⟩
    have hz1 : (e != 0) = false := by rw [hz0]; rfl
    simp only [push_cast, seval, reduceCtorEq, hz1]
    refine regO gA1_ok ?_
    simp only [push_cast, seval, reduceCtorEq, hb5, hb7, hb8]
    refine useB [_, _, _, _] (sset_ok (x := x') hv1 hl5 hn) (SetO.rd _ _) hg1.marks ⟨f70, f80, f50, f30, trivial⟩ fun w N9 M9 hg9 hf9 hL9 hw9 hm9 hq9 => ?_
    obtain ⟨w9, rfl, hst9⟩ := hq9
    obtain ⟨p9, k9, rfl⟩ : ∃ p k, w9 = .slice p (setS s x').1.length k := by
      obtain ⟨L, h1, h2, -⟩ := hst9
      obtain ⟨p, k, h3⟩ := h2.slice
      exact ⟨p, k, by rw [h3, ← h1, List.length_map]⟩
    by_cases hz : (setS s x').2 = 0
    · have hz1 : ((setS s x').2 != 0) = false := by rw [hz]; rfl
      have hdo : doS s c = ((setS s x').1, u, 0) := by
        unfold doS
        rw [if_neg (by rw [hrs]; simp), hc3, if_neg (by simpa using hz0), hx3, if_neg (by simpa using hz), hu3]
      rw [hdo]
      simp only [push_cast, seval, reduceCtorEq, hb5, hb7, hb8, hz1]
      exact doneN [_, _, _, _] (hg1.trans hg9) hw9 hm9 hf9 (DoO.rd _ _) ⟨_, rfl, hst9⟩
    · have hz1 : ((setS s x').2 != 0) = true := by rw [bne_iff_ne]; exact hz
      have hdo : doS s c = (s, Ch.zero, (setS s x').2) := by
        unfold doS
        rw [if_neg (by rw [hrs]; simp), hc3, if_neg (by simpa using hz0), hx3, if_pos hz]
      rw [hdo]
      obtain ⟨e9, he9⟩ : ∃ e, e = (setS s x').2 := ⟨_, rfl⟩
      rw [← he9]
      rw [← he9] at hz1
      simp only [push_cast, seval, reduceCtorEq, hb5, hb7, hb8, hz1]
      have hL99 := freshN_appR hL9
      refine WpV.sub (s := ([(0, .slice p s.length k), (5, .pointer (some ⟨b5, 0, none⟩)), (9, .int .i64 e9)], ⟨b5, 0, .cel 33, Ch.zero.cells⟩ :: M9)) ⟨by simp only [push_cast, seval, reduceCtorEq], ?_, ?_⟩ ?_
      · exact subH_pick (by exact hb7.2.2.2.1) (by exact hb8.2.1) (by exact hL99.1) (by exact hL99.2.1) (by exact hL99.2.2.2.1) hf9
      · simp [marks_append, marksOf, hm9]
      have f59 : fresh b5 M9 := hL99.2.2.1
      refine regO gA1_ok ?_
      simp only [push_cast, seval, reduceCtorEq]
      refine useB [_] (mapped_ok ((StR.ext (hg1.trans hg9).ext hv)) hn hsl') (StO.rd _ _) hg9.marks ⟨f59, trivial⟩ fun w N8 M8 hg8 hf8 hL8 hw8 hm8 hq8 => ?_
      simp only [push_cast, seval, reduceCtorEq]
      exact doneN [_] ((hg1.trans hg9).trans hg8) hw8 hm8 hf8 (DoO.rd _ _) ⟨_, rfl, hq8⟩
end Go.Proofs.YtpcjmmdgopihcaaGreatDoor
set_option linter.unusedSimpArgs false
set_option linter.unusedVariables false
namespace Go.Ev
end Go.Ev
set_option linter.unusedSimpArgs false
set_option linter.unusedVariables false
namespace Go.Ev
theorem Ac.ext {x y : Ac} (h1 : x.at_ = y.at_) (h2 : x.bal = y.bal) (h3 : x.nonce = y.nonce) (h4 : x.code = y.code) (h5 : x.slots = y.slots) : x = y := by
  cases x; cases y; cases h1; cases h2; cases h3; cases h4; cases h5; rfl
theorem code_eq {a b : ByteArray} : (a.toList == b.toList) = decide (a = b) := by
  rw [ByteArray.toList_eq, ByteArray.toList_eq, Bool.eq_iff_iff, beq_iff_eq, decide_eq_true_eq]
  constructor
  · intro h
    cases a with | mk x => cases b with | mk y => rw [show x = y from Array.toList_inj.1 h]
  · rintro rfl; rfl
instance : DecidableEq Jo := fun x y => if h : x.state = y.state ∧ x.undo = y.undo ∧ x.marks = y.marks then .isTrue (by cases x; cases y; obtain ⟨h1, h2, h3⟩ := h; cases h1; cases h2; cases h3; rfl) else .isFalse fun e => h (by rw [e]; exact ⟨rfl, rfl, rfl⟩)
def chK : List CK := .i :: (List.replicate 20 .i ++ ([.i, .i, .i, .i] ++ ([.i, .i, .i, .i] ++ [.i, .s])))
theorem Ch.ext {x y : Ch} (h1 : x.kind = y.kind) (h2 : x.at_ = y.at_) (h3 : x.key = y.key) (h4 : x.val = y.val) (h5 : x.nonce = y.nonce) (h6 : x.code = y.code) : x = y := by
  cases x; cases y; cases h1; cases h2; cases h3; cases h4; cases h5; cases h6; rfl
theorem Ch.eqC (x y : Ch) : eqC chK x.cells y.cells = some (decide (x = y)) := by
  have h1 := eqC_cat (Ad.eqC x.at_ y.at_) (eqC_cat (W.eqC x.key y.key) (eqC_cat (W.eqC x.val y.val) (show Ev.eqC [.i, .s] [.int .i64 x.nonce, .string x.code] [.int .i64 y.nonce, .string y.code] = some ((x.nonce == y.nonce) && ((x.code.toList == y.code.toList) && true)) from rfl)))
  unfold chK Ch.cells
  rw [Ev.eqC, if_pos rfl, h1, Option.map_some, code_eq]
  congr 1
  rw [Bool.eq_iff_iff, decide_eq_true_eq]
  simp only [Bool.and_eq_true, beq_iff_eq, decide_eq_true_eq, and_true]
  exact ⟨fun ⟨a1, a2, a3, a4, a5, a6⟩ => Ch.ext a1 a2 a3 a4 a5 a6, fun h => by rw [h]; exact ⟨rfl, rfl, rfl, rfl, rfl, rfl⟩⟩
theorem Ch.eqV {P : Program} {t : TypeId} (x y : Ch) (h1 : tyI P t = some (31, true)) (h2 : P.eqGuardType P.depth t = false) (h3 : flatK P 12 t = some chK) : eqV P t x.v y.v = some (decide (x = y)) := by
  unfold Ev.eqV Ch.v
  simp only [h1, h2, h3, Bool.false_eq_true, if_false, Option.bind_some]
  exact Ch.eqC x y
end Go.Ev
namespace Go.Proofs.YtpcjmmdgopihcaaGreatDoor
open Go Go.Ev Go.Proofs
set_option maxRecDepth 100000
set_option maxHeartbeats 4000000
theorem ch_ty : tyI Tryz.prog 33 = some (31, true) := by kernel_rfl
theorem ch_eg : Program.eqGuardType Tryz.prog (Program.depth Tryz.prog) 33 = false := by kernel_rfl
theorem ch_fl : flatK Tryz.prog 12 33 = some chK := by kernel_rfl
theorem ch_neq (x y : Ch) : binQ Tryz.prog .neq 33 x.v y.v = some (.bool (!decide (x = y))) := by
  show (Ev.eqV Tryz.prog 33 x.v y.v).map (fun r => Value.bool !r) = _
  rw [Ch.eqV x y ch_ty ch_eg ch_fl]; rfl
theorem ch_eql (x y : Ch) : binQ Tryz.prog .eql 33 x.v y.v = some (.bool (decide (x = y))) := by
  show (Ev.eqV Tryz.prog 33 x.v y.v).map Value.bool = _
  rw [Ch.eqV x y ch_ty ch_eg ch_fl]; rfl
attribute [push_cast high] ch_neq ch_eql
end Go.Proofs.YtpcjmmdgopihcaaGreatDoor
set_option linter.unusedSimpArgs false
set_option linter.unusedVariables false
namespace Go.Ev
end Go.Ev
namespace Go.Proofs.YtpcjmmdgopihcaaGreatDoor
open Go Go.Ev Go.Proofs
set_option maxRecDepth 100000
set_option maxHeartbeats 4000000
end Go.Proofs.YtpcjmmdgopihcaaGreatDoor
set_option linter.unusedSimpArgs false
set_option linter.unusedVariables false
namespace Go.Ev
end Go.Ev
namespace Go.Proofs.YtpcjmmdgopihcaaGreatDoor
open Go Go.Ev Go.Proofs
set_option maxRecDepth 100000
set_option maxHeartbeats 4000000
end Go.Proofs.YtpcjmmdgopihcaaGreatDoor
set_option linter.unusedSimpArgs false
set_option linter.unusedVariables false
namespace Go.Ev
end Go.Ev
namespace Go.Proofs.YtpcjmmdgopihcaaGreatDoor
open Go Go.Ev Go.Proofs
set_option maxRecDepth 100000
set_option maxHeartbeats 4000000
end Go.Proofs.YtpcjmmdgopihcaaGreatDoor
set_option linter.unusedSimpArgs false
set_option linter.unusedVariables false
namespace Go.Ev
end Go.Ev
namespace Go.Proofs.YtpcjmmdgopihcaaGreatDoor
open Go Go.Ev Go.Proofs
set_option maxRecDepth 100000
set_option maxHeartbeats 4000000
noncomputable def gJ0 : Gam := gA1
attribute [push_cast] gJ0
theorem gJ0_ok : GamOk Tryz.prog gJ0 := gA1_ok
noncomputable def gJ1 : Gam := gJ0
attribute [push_cast] gJ1
theorem gJ1_ok : GamOk Tryz.prog gJ1 := gJ0_ok
end Go.Proofs.YtpcjmmdgopihcaaGreatDoor
set_option linter.unusedSimpArgs false
set_option linter.unusedVariables false
namespace Go.Proofs.YtpcjmmdgopihcaaGreatDoor
open Go Go.Ev Go.Proofs
set_option maxRecDepth 100000
set_option maxHeartbeats 4000000
end Go.Proofs.YtpcjmmdgopihcaaGreatDoor
set_option linter.unusedSimpArgs false
set_option linter.unusedVariables false
namespace Go.Ev
end Go.Ev
namespace Go.Proofs.YtpcjmmdgopihcaaGreatDoor
open Go Go.Ev Go.Proofs
set_option maxRecDepth 100000
set_option maxHeartbeats 4000000
end Go.Proofs.YtpcjmmdgopihcaaGreatDoor
set_option linter.unusedSimpArgs false
set_option linter.unusedVariables false
namespace Go.Ev
end Go.Ev
namespace Go.Proofs.YtpcjmmdgopihcaaGreatDoor
open Go Go.Ev Go.Proofs
set_option maxRecDepth 100000
set_option maxHeartbeats 4000000
end Go.Proofs.YtpcjmmdgopihcaaGreatDoor
set_option linter.unusedSimpArgs false
set_option linter.unusedVariables false
namespace Go.Ev
end Go.Ev
set_option linter.unusedSimpArgs false
set_option linter.unusedVariables false
namespace Go.Ev
end Go.Ev
namespace Go.Proofs.YtpcjmmdgopihcaaGreatDoor
open Go Go.Ev Go.Proofs
set_option maxRecDepth 100000
set_option maxHeartbeats 4000000
attribute [-push_cast] evAppend_nil
end Go.Proofs.YtpcjmmdgopihcaaGreatDoor
set_option linter.unusedSimpArgs false
set_option linter.unusedVariables false
namespace Go.Ev
end Go.Ev
namespace Go.Proofs.YtpcjmmdgopihcaaGreatDoor
open Go Go.Ev Go.Proofs
set_option maxRecDepth 100000
set_option maxHeartbeats 4000000
end Go.Proofs.YtpcjmmdgopihcaaGreatDoor
set_option linter.unusedSimpArgs false
set_option linter.unusedVariables false
namespace Go.Ev
theorem append_gA {P : Program} {A X N : Hp} {st xt e sz by_ n m : Nat} {cs ys : List Value} {v x : Value} {K : Value → Hp → Prop} (ho : OutG e sz cs n v N) (hA : freshN A N) (hs : slI P st = some (e, sz, by_)) (hx : srcL P (A ++ (N ++ X)) xt x sz = some (ys, m)) (hl : ys.length = m * sz) (h1 : ys.all oneC = true) (hb : (n + m) * by_ ≤ two47)
    (hk : ∀ v' N', OutG e sz (cs ++ ys) (n + m) v' N' → freshN N' (A ++ X) → K v' (N' ++ (A ++ X))) : evAppend P (A ++ (N ++ X)) st xt v x K := by
  have hsz : 0 < sz := (slI_eq hs).2.elim fun _ h => h.elim fun _ h => h.2.2.2.2.2.1
  unfold evAppend
  rw [hs]
  dsimp only
  rw [hx]
  dsimp only
  rcases ho with ⟨rfl, rfl, rfl, rfl⟩ | ⟨b, c, rfl, hc, hcl, rfl⟩
  · refine ⟨⟨rfl, rfl⟩, fun hm => ?_, fun hm => ⟨by simpa using hb, fun b c' hf hc' => ?_⟩⟩
    · subst hm
      have : ys = [] := List.length_eq_zero_iff.1 (by simpa using hl)
      subst this
      exact hk _ [] (.inl ⟨rfl, rfl, rfl, rfl⟩) trivial
    · have := hk (.slice (some ⟨b, 0, none⟩) (0 + m) c') [⟨b, 0, .vec e sz c', [] ++ ys⟩] (.inr ⟨b, c', rfl, by omega, by simpa using hl, rfl⟩) ⟨hf, trivial⟩
      rw [Nat.zero_add] at this
      exact this
  · have hb' : ∀ a ∈ A, ¬ b = a.blk := fun a ha h => by
      have := freshN_iff.1 hA a ha _ (List.mem_singleton.2 rfl)
      exact this h
    have e1 : findE (A ++ ([⟨b, 0, .vec e sz c, cs⟩] ++ X)) b = some ⟨b, 0, .vec e sz c, cs⟩ := by rw [findE_A hb']; simp [findE]
    have e2 : remE (A ++ ([⟨b, 0, .vec e sz c, cs⟩] ++ X)) b = A ++ X := by rw [remE_A hb']; simp [remE]
    dsimp only
    rw [e1, e2]
    dsimp only
    rw [if_pos hcl]
    refine ⟨⟨rfl, rfl, rfl, rfl, hcl⟩, hb, h1, fun b' c' hf hc' => ?_⟩
    exact hk _ [⟨b', 0, .vec e sz c', cs ++ ys⟩] (.inr ⟨b', c', rfl, hc', by rw [List.length_append, hcl, hl, Nat.add_mul], rfl⟩) ⟨hf, trivial⟩
theorem push_gA {P : Program} {α : Type} {c : α → List Value} {e e' s' sz by_ st q : Nat} {ag : Bool} {l : List α} {x : α} {v : Value} (A : Hp) {N X : Hp} {b k : Nat} {K : Value → Hp → Prop} (ho : OutG e sz (l.flatMap c) l.length v N) (hA : freshN (⟨b, 0, .vec e' s' 1, c x⟩ :: A) N) (hs : slI P st = some (e, sz, by_)) (he : elemI P st = some (none, q, ag))
    (hl : (c x).length = sz) (h1 : (c x).all oneC = true) (hb : (l.length + 1) * by_ ≤ two47)
    (hk : ∀ v' N', OutG e sz ((l ++ [x]).flatMap c) (l ++ [x]).length v' N' → freshN N' (⟨b, 0, .vec e' s' 1, c x⟩ :: (A ++ X)) → K v' (N' ++ ⟨b, 0, .vec e' s' 1, c x⟩ :: (A ++ X))) : evAppend P (⟨b, 0, .vec e' s' 1, c x⟩ :: (A ++ (N ++ X))) st st v (.slice (some ⟨b, 0, none⟩) 1 k) K := by
  refine append_gA (A := ⟨b, 0, .vec e' s' 1, c x⟩ :: A) (e := e) (sz := sz) (by_ := by_) (n := l.length) (m := 1) (ys := c x) ho hA hs ?_ (by rw [hl, Nat.one_mul]) h1 hb fun v' N' ho' hf' => hk v' N' ?_ hf'
  · unfold srcL
    rw [he]
    dsimp only
    unfold cellsAt
    simp only [List.cons_append, findE, if_true, Nat.le_refl, Nat.sub_self, subL, Nat.zero_add, List.drop_zero, Nat.one_mul]
    rw [if_pos (Nat.le_of_eq hl.symm), List.take_of_length_le (Nat.le_of_eq hl)]
  · rw [List.flatMap_append, List.length_append, List.flatMap_cons, List.flatMap_nil, List.append_nil]
    exact ho'
end Go.Ev
namespace Go.Proofs.YtpcjmmdgopihcaaGreatDoor
open Go Go.Ev Go.Proofs
set_option maxRecDepth 100000
set_option maxHeartbeats 4000000
end Go.Proofs.YtpcjmmdgopihcaaGreatDoor
set_option linter.unusedSimpArgs false
set_option linter.unusedVariables false
namespace Go.Ev
end Go.Ev
namespace Go.Proofs.YtpcjmmdgopihcaaGreatDoor
open Go Go.Ev Go.Proofs
set_option maxRecDepth 100000
set_option maxHeartbeats 4000000
end Go.Proofs.YtpcjmmdgopihcaaGreatDoor
set_option linter.unusedSimpArgs false
set_option linter.unusedVariables false
namespace Go.Proofs.YtpcjmmdgopihcaaGreatDoor
open Go Go.Ev Go.Proofs
set_option maxRecDepth 100000
set_option maxHeartbeats 4000000
end Go.Proofs.YtpcjmmdgopihcaaGreatDoor
set_option linter.unusedSimpArgs false
set_option linter.unusedVariables false
namespace Go.Ev
end Go.Ev
namespace Go.Proofs.YtpcjmmdgopihcaaGreatDoor
open Go Go.Ev Go.Proofs
set_option maxRecDepth 100000
set_option maxHeartbeats 4000000
end Go.Proofs.YtpcjmmdgopihcaaGreatDoor
set_option linter.unusedSimpArgs false
set_option linter.unusedVariables false
namespace Go.Proofs.YtpcjmmdgopihcaaGreatDoor
open Go Go.Ev Go.Proofs
set_option maxRecDepth 100000
set_option maxHeartbeats 4000000
end Go.Proofs.YtpcjmmdgopihcaaGreatDoor
set_option linter.unusedSimpArgs false
set_option linter.unusedVariables false
namespace Go.Proofs.YtpcjmmdgopihcaaGreatDoor
open Go Go.Ev Go.Proofs
set_option maxRecDepth 100000
set_option maxHeartbeats 4000000
end Go.Proofs.YtpcjmmdgopihcaaGreatDoor
set_option linter.unusedSimpArgs false
set_option linter.unusedVariables false
namespace Go.Ev
def addrL (k : Nat) : List UInt8 := (if 5 < k then 1 else 0) :: (List.replicate 18 0 ++ [UInt8.ofNat k])
theorem addrL_len (k : Nat) : (addrL k).length = 20 := by simp [addrL]
noncomputable def addrA : Int → Ad := hid fun n => ⟨addrL (pickN n 9), addrL_len _⟩
theorem addrA_eq (n : Int) : addrA n = ⟨addrL (pickN n 9), addrL_len _⟩ := by unfold addrA; rw [hid_eq]
noncomputable def addrG : List Value → Option Value
  | [.int .i64 n] => if i64In n then some (addrA n).v else none
  | _ => none
attribute [push_cast] addrG
theorem addr_cells (k : Nat) (h : k < 9) : byteV (addrL k) = .int .u8 (if 5 < k then 1 else 0) :: (List.replicate 18 (.int .u8 0) ++ [.int .u8 k]) := by
  have : k = 0 ∨ k = 1 ∨ k = 2 ∨ k = 3 ∨ k = 4 ∨ k = 5 ∨ k = 6 ∨ k = 7 ∨ k = 8 := by omega
  rcases this with rfl | rfl | rfl | rfl | rfl | rfl | rfl | rfl | rfl <;> rfl
end Go.Ev
namespace Go.Proofs.YtpcjmmdgopihcaaGreatDoor
open Go Go.Ev Go.Proofs
set_option maxRecDepth 100000
set_option maxHeartbeats 4000000
theorem pick08_ok (c n : Int) (hc : i64In c) (hn : 0 < n) (hn2 : i64In n) : CallsV Tryz.prog 11 [.int .i64 c, .int .i64 n] [] (Ret0 (.int .i64 (pickN c n))) := by
  have hn0 : ¬ n = 0 := by omega
  have h2 := pickN_lt c hn
  unfold i64In at hc hn2
  refine callsO (noG_ok _) Tryz.mix Tryz.pl11 Tryz.func11 rfl Tryz.ntmps11 Tryz.results11 rfl (by first | rfl | assumption) (Nat.le_of_ble_eq_true rfl) (by kernel_rfl) ?_
  rcases Int.lt_or_le c 0 with h | h
  · have e1 : pickN c n = (-(c + 1)).tmod n := by
      have := Int.emod_nonneg (-(c + 1)) hn0
      unfold pickN; rw [if_pos h, Int.tmod_eq_emod_of_nonneg (by omega)]; omega
    have e2 : (0 - (c + 1)) = -(c + 1) := by omega
    simp only [push_cast, seval, reduceCtorEq, h, wrap_i64' (show -9223372036854775808 ≤ c + 1 ∧ c + 1 ≤ 9223372036854775807 by omega), hn0, e2, wrap_i64' (show -9223372036854775808 ≤ -(c + 1) ∧ -(c + 1) ≤ 9223372036854775807 by omega), e1]
  · have h' : ¬ c < 0 := by omega
    have e1 : pickN c n = c.tmod n := by
      have := Int.emod_nonneg c hn0
      unfold pickN; rw [if_neg h', Int.tmod_eq_emod_of_nonneg (by omega)]; omega
    simp only [push_cast, seval, reduceCtorEq, h', hn0, e1]
theorem pick08G_ok (args : List Value) (v : Value) (h : pickG args = some v) : CallsV Tryz.prog 11 args [] (Ret0 v) := by
  unfold pickG at h
  split at h
  · split at h
    · rename_i c n hh; cases h; exact pick08_ok c n hh.1 hh.2.1 hh.2.2
    · cases h
  · cases h
theorem ofWG_ok (args : List Value) (v : Value) (h : ofG args = some v) : CallsV Tryz.prog 29 args [] (Ret0 v) := by
  unfold ofG at h
  split at h
  · split at h
    · rename_i n hh; cases h; exact refOf n hh
    · cases h
  · cases h
noncomputable def gV0 : Gam := (addG 29 ofG (addG 11 pickG gJ1))
attribute [push_cast] gV0
theorem gV0_ok : GamOk Tryz.prog gV0 := (addG_ok ofWG_ok (addG_ok pick08G_ok gJ1_ok))
theorem addr_ok (n : Int) (hn : i64In n) : CallsV Tryz.prog 18 [.int .i64 n] [] (Ret0 (addrA n).v) := by
  have j1 : i64In 9 := by decide
  have hp := pickN_lt n (show (0 : Int) < 9 by decide)
  rw [addrA_eq]
  obtain ⟨k, hk⟩ : ∃ k, k = pickN n 9 := ⟨_, rfl⟩
  have hk9 : k < 9 := by omega
  have hv : (⟨addrL (pickN n 9), addrL_len _⟩ : Ad).v = .agg (.int .u8 (if 5 < k then 1 else 0) :: (List.replicate 18 (.int .u8 0) ++ [.int .u8 k])).toArray := by
    unfold Ad.v Ad.cells
    dsimp only
    rw [← hk, addr_cells k hk9]
  rw [hv]
  refine callsO gV0_ok Tryz.mix Tryz.pl18 Tryz.func18 rfl Tryz.ntmps18 Tryz.results18 rfl (by first | rfl | assumption) (Nat.le_of_ble_eq_true rfl) (by kernel_rfl) ?_
  simp only [push_cast, seval, reduceCtorEq]
  intro b2 b3 hb3
  by_cases h5 : 5 < k
  · have i5 : (5 : Int) < (k : Int) := by omega
    rw [if_pos h5]
    simp only [push_cast, seval, reduceCtorEq, hb3, hn, j1, ← hk, i5, h5, wrap_u8' (n := (k : Int)) (by omega)]
    try rfl
  · have i5 : ¬ (5 : Int) < (k : Int) := by omega
    rw [if_neg h5]
    simp only [push_cast, seval, reduceCtorEq, hb3, hn, j1, ← hk, i5, h5, wrap_u8' (n := (k : Int)) (by omega)]
    try rfl
theorem addrG_ok (args : List Value) (v : Value) (h : addrG args = some v) : CallsV Tryz.prog 18 args [] (Ret0 v) := by
  unfold addrG at h
  split at h
  · split at h
    · rename_i n hh; cases h; exact addr_ok n hh
    · cases h
  · cases h
noncomputable def gV1 : Gam := (addG 18 addrG gV0)
attribute [push_cast] gV1
theorem gV1_ok : GamOk Tryz.prog gV1 := (addG_ok addrG_ok gV0_ok)
end Go.Proofs.YtpcjmmdgopihcaaGreatDoor
set_option linter.unusedSimpArgs false
set_option linter.unusedVariables false
namespace Go.Ev
structure R4 where
  a : Int
  b : Int
  c : Int
  d : Int
def R4.cells (r : R4) : List Value := [.int .i64 r.a, .int .i64 r.b, .int .i64 r.c, .int .i64 r.d]
def R4.v (r : R4) : Value := .agg #[.int .i64 r.a, .int .i64 r.b, .int .i64 r.c, .int .i64 r.d]
def R4.In (r : R4) : Prop := i64In r.a ∧ i64In r.b ∧ i64In r.c ∧ i64In r.d
def codeN (n : Nat) : ByteArray := if n = 0 then ⟨#[]⟩ else if n = 1 then ⟨#[0]⟩ else if n = 2 then ⟨#[96, 1]⟩ else ⟨#[99, 111, 100, 101]⟩
noncomputable def chR (r : R4) : Ch :=
  if pickN r.a 4 = 0 then ⟨1, addrA r.b, W.zero, W.ofInt (pickN r.c 1000 : Nat), 0, .empty⟩
  else if pickN r.a 4 = 1 then ⟨2, addrA r.b, W.zero, W.zero, (pickN r.c 4 : Nat), .empty⟩
  else if pickN r.a 4 = 2 then ⟨3, addrA r.b, W.zero, W.zero, 0, codeN (pickN r.c 4)⟩
  else ⟨4, addrA r.b, W.ofInt (pickN r.c 5 : Nat), W.ofInt (pickN r.d 3 : Nat), 0, .empty⟩
end Go.Ev
namespace Go.Proofs.YtpcjmmdgopihcaaGreatDoor
open Go Go.Ev Go.Proofs
set_option maxRecDepth 100000
set_option maxHeartbeats 4000000
theorem change_ok (r : R4) (hr : r.In) : CallsV Tryz.prog 24 [r.v] [] (Ret0 (chR r).v) := by
  obtain ⟨a, b, c, d⟩ := r
  obtain ⟨ia, ib, ic, id⟩ := hr
  dsimp only at ia ib ic id
  have j4 : i64In 4 := by decide
  have j5 : i64In 5 := by decide
  have j3 : i64In 3 := by decide
  have jk : i64In 1000 := by decide
  have pa := pickN_lt a (show (0 : Int) < 4 by decide)
  have pc := pickN_lt c (show (0 : Int) < 4 by decide)
  have pk := pickN_lt c (show (0 : Int) < 1000 by decide)
  have p5 := pickN_lt c (show (0 : Int) < 5 by decide)
  have p3 := pickN_lt d (show (0 : Int) < 3 by decide)
  unfold chR
  dsimp only
  obtain ⟨x, hx⟩ : ∃ x, x = pickN a 4 := ⟨_, rfl⟩
  rw [← hx] at pa ⊢
  show CallsV Tryz.prog _ [.agg #[.int .i64 a, .int .i64 b, .int .i64 c, .int .i64 d]] _ _
  have hx4 : x = 0 ∨ x = 1 ∨ x = 2 ∨ x = 3 := by omega
  refine callsO gV1_ok Tryz.mix Tryz.pl24 Tryz.func24 rfl Tryz.ntmps24 Tryz.results24 rfl (by first | rfl | assumption) (Nat.le_of_ble_eq_true rfl) (by kernel_rfl) ?_
  simp only [push_cast, seval, reduceCtorEq]
  intro b1 b2 hb2
  rcases hx4 with rfl | rfl | rfl | rfl
  · simp only [push_cast, seval, reduceCtorEq, hb2, ia, ib, ic, id, j4, j5, j3, jk, ← hx]
    intro b3 hb3
    have k1 : -9223372036854775808 ≤ ((pickN c 1000 : Nat) : Int) ∧ ((pickN c 1000 : Nat) : Int) ≤ 9223372036854775807 := by omega
    simp only [push_cast, seval, reduceCtorEq, hb2, hb3, ia, ib, ic, id, j4, j5, j3, jk, ← hx, k1.1, k1.2]
  · simp only [push_cast, seval, reduceCtorEq, hb2, ia, ib, ic, id, j4, j5, j3, jk, ← hx]
    intro b3 hb3
    simp only [push_cast, seval, reduceCtorEq, hb2, hb3, ia, ib, ic, id, j4, j5, j3, jk, ← hx]
  · simp only [push_cast, seval, reduceCtorEq, hb2, ia, ib, ic, id, j4, j5, j3, jk, ← hx]
    intro b3 hb3
    simp only [push_cast, seval, reduceCtorEq, hb2, hb3, ia, ib, ic, id, j4, j5, j3, jk, ← hx]
    intro b4 hb4
    obtain ⟨y, hy⟩ : ∃ y, y = pickN c 4 := ⟨_, rfl⟩
    rw [← hy]
    have hy4 : y = 0 ∨ y = 1 ∨ y = 2 ∨ y = 3 := by omega
    rcases hy4 with rfl | rfl | rfl | rfl <;> simp only [push_cast, seval, reduceCtorEq, hb2, hb3, hb4, ia, ib, ic, id, j4, j5, j3, jk, ← hx, ← hy, codeN]
    all_goals trace_state
  · simp only [push_cast, seval, reduceCtorEq, hb2, ia, ib, ic, id, j4, j5, j3, jk, ← hx]
    intro b3 hb3
    have k1 : -9223372036854775808 ≤ ((pickN c 5 : Nat) : Int) ∧ ((pickN c 5 : Nat) : Int) ≤ 9223372036854775807 := by omega
    have k2 : -9223372036854775808 ≤ ((pickN d 3 : Nat) : Int) ∧ ((pickN d 3 : Nat) : Int) ≤ 9223372036854775807 := by omega
    simp only [push_cast, seval, reduceCtorEq, hb2, hb3, ia, ib, ic, id, j4, j5, j3, jk, ← hx, k1.1, k1.2, k2.1, k2.2]
end Go.Proofs.YtpcjmmdgopihcaaGreatDoor
set_option linter.unusedSimpArgs false
set_option linter.unusedVariables false
namespace Go.Ev
noncomputable def chG : List Value → Option Value
  | [.agg cs] => match cs.toList with
    | [.int .i64 a, .int .i64 b, .int .i64 c, .int .i64 d] => if i64In a ∧ i64In b ∧ i64In c ∧ i64In d then some (chR ⟨a, b, c, d⟩).v else none
    | _ => none
  | _ => none
attribute [push_cast] chG
end Go.Ev
namespace Go.Proofs.YtpcjmmdgopihcaaGreatDoor
open Go Go.Ev Go.Proofs
set_option maxRecDepth 100000
set_option maxHeartbeats 4000000
theorem chG_ok (args : List Value) (v : Value) (h : chG args = some v) : CallsV Tryz.prog 24 args [] (Ret0 v) := by
  unfold chG at h
  split at h
  · rename_i cs
    split at h
    · rename_i a b c d hcs
      split at h
      · rename_i hh
        cases h
        have : cs = #[.int .i64 a, .int .i64 b, .int .i64 c, .int .i64 d] := Array.toList_inj.1 hcs
        subst this
        exact change_ok ⟨a, b, c, d⟩ hh
      · cases h
    · cases h
  · cases h
noncomputable def gV2 : Gam := (addG 24 chG gV1)
attribute [push_cast] gV2
theorem gV2_ok : GamOk Tryz.prog gV2 := (addG_ok chG_ok gV1_ok)
end Go.Proofs.YtpcjmmdgopihcaaGreatDoor
set_option linter.unusedSimpArgs false
set_option linter.unusedVariables false
namespace Go.Ev
noncomputable def rot : Nat → Nat → Nat := hid fun x k => ((x * 2 ^ k) % 18446744073709551616) ||| (x / 2 ^ (64 - k))
theorem rot_eq (x k : Nat) : rot x k = ((x * 2 ^ k) % 18446744073709551616) ||| (x / 2 ^ (64 - k)) := by unfold rot; rw [hid_eq]
noncomputable def xorN : Nat → Nat → Nat := hid fun x y => x ^^^ y
theorem xorN_eq (x y : Nat) : xorN x y = x ^^^ y := by unfold xorN; rw [hid_eq]
noncomputable def anN : Nat → Nat → Nat := hid fun x y => x &&& (18446744073709551615 - y)
theorem anN_eq (x y : Nat) : anN x y = x &&& (18446744073709551615 - y) := by unfold anN; rw [hid_eq]
theorem rot_lt {x k : Nat} (hx : x < 18446744073709551616) (hk : k < 64) : rot x k < 18446744073709551616 := by
  rw [rot_eq]
  have h1 : x / 2 ^ (64 - k) < 2 ^ 64 := Nat.lt_of_le_of_lt (Nat.div_le_self _ _) hx
  exact Nat.or_lt_two_pow (n := 64) (Nat.mod_lt _ (by decide)) h1
theorem xorN_lt {x y : Nat} (hx : x < 18446744073709551616) (hy : y < 18446744073709551616) : xorN x y < 18446744073709551616 := by
  rw [xorN_eq]; exact Nat.xor_lt_two_pow (n := 64) hx hy
theorem anN_lt {x y : Nat} (hx : x < 18446744073709551616) : anN x y < 18446744073709551616 := by
  rw [anN_eq]; exact Nat.lt_of_le_of_lt Nat.and_le_left hx
theorem xor_u64 {x y : Nat} (hx : x < 18446744073709551616) (hy : y < 18446744073709551616) : bitsI .xor .u64 (x : Int) (y : Int) = ((xorN x y : Nat) : Int) := by
  rw [xorN_eq]; exact bits_xor_u64_nat x y hx hy
theorem an_u64 {x y : Nat} (hx : x < 18446744073709551616) (hy : y < 18446744073709551616) : bitsI .andNot .u64 (x : Int) (y : Int) = ((anN x y : Nat) : Int) := by
  have hl := anN_lt (y := y) hx
  rw [anN_eq] at hl ⊢
  have h1 : (BitVec.ofInt 64 (x : Int)).toNat = x := by
    rw [BitVec.ofInt_natCast, BitVec.toNat_ofNat]; exact Nat.mod_eq_of_lt (by omega)
  have h2 : (BitVec.ofInt 64 (y : Int)).toNat = y := by
    rw [BitVec.ofInt_natCast, BitVec.toNat_ofNat]; exact Nat.mod_eq_of_lt (by omega)
  show IntKind.u64.wrap ((BitVec.ofInt 64 (x : Int) &&& ~~~ BitVec.ofInt 64 (y : Int)).toNat : Int) = _
  rw [BitVec.toNat_and, BitVec.toNat_not, h1, h2, IntKind.wrap_u64, show 2 ^ 64 - 1 - y = 18446744073709551615 - y from rfl]
  omega
theorem rot_u64 {x k : Nat} (hx : x < 18446744073709551616) (hk : k < 64) : bitsI .or .u64 (shlI .u64 (x : Int) (k : Int)) (shrI .u64 (x : Int) (64 - (k : Int))) = ((rot x k : Nat) : Int) := by
  have e1 : shlI .u64 (x : Int) (k : Int) = ((x * 2 ^ k % 18446744073709551616 : Nat) : Int) := by
    unfold shlI
    rw [IntKind.wrap_u64, show min (k : Int).toNat IntKind.u64.bits = k by show min k 64 = k; omega]
    rw [Int.natCast_emod, Int.natCast_mul, Int.natCast_pow]
    rfl
  have e2 : shrI .u64 (x : Int) (64 - (k : Int)) = ((x / 2 ^ (64 - k) : Nat) : Int) := by
    unfold shrI
    rw [show (64 - (k : Int)).toNat = 64 - k by omega, show min (64 - k) IntKind.u64.bits = 64 - k by show min (64 - k) 64 = 64 - k; omega]
    rw [Int.fdiv_eq_ediv_of_nonneg _ (by exact Int.le_of_lt (Int.pow_pos (by decide))), Int.natCast_ediv, Int.natCast_pow]
    rfl
  rw [e1, e2, rot_eq]
  exact bits_or_u64_nat _ _ (Nat.mod_lt _ (by decide)) (Nat.lt_of_le_of_lt (Nat.div_le_self _ _) hx)
def ln (a : List Nat) (i : Nat) : Nat := a.getD i 0
def lnC (a : List Nat) : List Value := a.map fun n => .int .u64 (n : Nat)
structure Ln (n : Nat) (a : List Nat) : Prop where
  len : a.length = n
  lt : ∀ x ∈ a, x < 18446744073709551616
theorem Ln.at {n : Nat} {a : List Nat} (h : Ln n a) (i : Nat) : ln a i < 18446744073709551616 := by
  unfold ln
  rw [List.getD_eq_getElem?_getD]
  cases e : a[i]? with
  | none => decide
  | some x => exact h.lt x (List.mem_of_getElem? e)
theorem Ln.set {n : Nat} {a : List Nat} (h : Ln n a) (i : Nat) {x : Nat} (hx : x < 18446744073709551616) : Ln n (a.set i x) :=
  ⟨by rw [List.length_set]; exact h.len, fun y hy => by
    rcases List.mem_or_eq_of_mem_set hy with hy | rfl
    · exact h.lt y hy
    · exact hx⟩
theorem Ln.zero (n : Nat) : Ln n (List.replicate n 0) := ⟨List.length_replicate .., fun x hx => by rw [List.eq_of_mem_replicate hx]; decide⟩
theorem lnC_len (a : List Nat) : (lnC a).length = a.length := List.length_map ..
theorem lnC_at {a : List Nat} {i : Nat} (h : i < a.length) : List.take 1 (List.drop i (lnC a)) = [.int .u64 (ln a i : Nat)] := by
  unfold lnC ln
  rw [← List.map_drop, ← List.map_take, List.drop_eq_getElem_cons h, List.take_succ_cons, List.take_zero, List.map_cons, List.map_nil, List.getD_eq_getElem?_getD, List.getElem?_eq_getElem h, Option.getD_some]
theorem lnC_set {a : List Nat} {i x : Nat} (h : i < a.length) : List.take i (lnC a) ++ .int .u64 (x : Nat) :: List.drop (i + 1) (lnC a) = lnC (a.set i x) := by
  unfold lnC
  rw [List.set_eq_take_append_cons_drop, if_pos h, List.map_append, List.map_cons, List.map_take, List.map_drop]
theorem lnC_one (a : List Nat) : (lnC a).all oneC = true := by
  rw [List.all_eq_true]
  intro v hv
  obtain ⟨n, -, rfl⟩ := List.mem_map.1 hv
  rfl
theorem lnC_take {n : Nat} {a : List Nat} (h : Ln n a) : List.take n (lnC a) = lnC a := List.take_of_length_le (by rw [lnC_len, h.len]; exact Nat.le_refl _)
theorem lnC_drop {n : Nat} {a : List Nat} (h : Ln n a) : List.drop n (lnC a) = [] := List.drop_of_length_le (by rw [lnC_len, h.len]; exact Nat.le_refl _)
theorem Ln.cl {n : Nat} {a : List Nat} (h : Ln n a) : (lnC a).length = n := by rw [lnC_len]; exact h.len
noncomputable def thC (a : List Nat) : Nat → List Nat
  | 0 => List.replicate 5 0
  | k + 1 => (thC a k).set (k % 5) (xorN (ln (thC a k) (k % 5)) (ln a k))
noncomputable def thA (a c : List Nat) : Nat → List Nat
  | 0 => a
  | k + 1 => (thA a c k).set k (xorN (ln (thA a c k) k) (xorN (ln c ((k % 5 + 4) % 5)) (rot (ln c ((k % 5 + 1) % 5)) 1)))
noncomputable def thetaK : List Nat → List Nat := hid fun a => thA a (thC a 25) 25
theorem thetaK_eq (a : List Nat) : thetaK a = thA a (thC a 25) 25 := by unfold thetaK; rw [hid_eq]
theorem thC_ln {a : List Nat} (h : Ln 25 a) : ∀ k, Ln 5 (thC a k)
  | 0 => Ln.zero 5
  | k + 1 => (thC_ln h k).set _ (xorN_lt ((thC_ln h k).at _) (h.at _))
theorem thA_ln {a c : List Nat} (h : Ln 25 a) (hc : Ln 5 c) : ∀ k, Ln 25 (thA a c k)
  | 0 => h
  | k + 1 => (thA_ln h hc k).set _ (xorN_lt ((thA_ln h hc k).at _) (xorN_lt (hc.at _) (rot_lt (hc.at _) (by decide))))
theorem thetaK_ln {a : List Nat} (h : Ln 25 a) : Ln 25 (thetaK a) := by rw [thetaK_eq]; exact thA_ln h (thC_ln h 25) 25
noncomputable def tnS (a : List Nat) : Nat → Nat × Nat × List Nat
  | 0 => (1, 0, (List.replicate 25 0).set 0 (ln a 0))
  | t + 1 => ((tnS a t).2.1, (2 * (tnS a t).1 + 3 * (tnS a t).2.1) % 5, (tnS a t).2.2.set (5 * ((2 * (tnS a t).1 + 3 * (tnS a t).2.1) % 5) + (tnS a t).2.1) (rot (ln a (5 * (tnS a t).2.1 + (tnS a t).1)) ((t + 1) * (t + 2) / 2 % 64)))
theorem tnS_ok {a : List Nat} (h : Ln 25 a) : ∀ t, (tnS a t).1 < 5 ∧ (tnS a t).2.1 < 5 ∧ Ln 25 (tnS a t).2.2
  | 0 => ⟨by show 1 < 5; decide, by show 0 < 5; decide, (Ln.zero 25).set 0 (h.at 0)⟩
  | t + 1 => by
    obtain ⟨h1, h2, h3⟩ := tnS_ok h t
    exact ⟨h2, Nat.mod_lt _ (by decide), h3.set _ (rot_lt (h.at _) (Nat.mod_lt _ (by decide)))⟩
noncomputable def turnK : List Nat → List Nat := hid fun a => (tnS a 24).2.2
theorem turnK_eq (a : List Nat) : turnK a = (tnS a 24).2.2 := by unfold turnK; rw [hid_eq]
theorem turnK_ln {a : List Nat} (h : Ln 25 a) : Ln 25 (turnK a) := by rw [turnK_eq]; exact (tnS_ok h 24).2.2
noncomputable def chS (a : List Nat) : Nat → List Nat
  | 0 => List.replicate 25 0
  | k + 1 => (chS a k).set k (xorN (ln a k) (anN (ln a (5 * (k / 5) + (k % 5 + 2) % 5)) (ln a (5 * (k / 5) + (k % 5 + 1) % 5))))
theorem chS_ln {a : List Nat} (h : Ln 25 a) : ∀ k, Ln 25 (chS a k)
  | 0 => Ln.zero 25
  | k + 1 => (chS_ln h k).set _ (xorN_lt (h.at _) (anN_lt (h.at _)))
noncomputable def chiK : List Nat → List Nat := hid fun a => chS a 25
theorem chiK_eq (a : List Nat) : chiK a = chS a 25 := by unfold chiK; rw [hid_eq]
theorem chiK_ln {a : List Nat} (h : Ln 25 a) : Ln 25 (chiK a) := by rw [chiK_eq]; exact chS_ln h 25
def consK : List Nat := [1, 32898, 9223372036854808714, 9223372039002292224, 32907, 2147483649, 9223372039002292353, 9223372036854808585, 138, 136, 2147516425, 2147483658, 2147516555, 9223372036854775947, 9223372036854808713, 9223372036854808579, 9223372036854808578, 9223372036854775936, 32778, 9223372039002259466, 9223372039002292353, 9223372036854808704, 2147483649, 9223372039002292232]
noncomputable def pmS (a : List Nat) : Nat → List Nat
  | 0 => a
  | k + 1 => (chiK (turnK (thetaK (pmS a k)))).set 0 (xorN (ln (chiK (turnK (thetaK (pmS a k)))) 0) (ln consK k))
theorem consK_at (k : Nat) : ln consK k < 18446744073709551616 := by
  have h : ∀ x ∈ consK, x < 18446744073709551616 := by decide
  exact Ln.at (n := 24) ⟨rfl, h⟩ k
theorem pmS_ln {a : List Nat} (h : Ln 25 a) : ∀ k, Ln 25 (pmS a k)
  | 0 => h
  | k + 1 => (chiK_ln (turnK_ln (thetaK_ln (pmS_ln h k)))).set 0 (xorN_lt ((chiK_ln (turnK_ln (thetaK_ln (pmS_ln h k)))).at 0) (consK_at k))
noncomputable def permK : List Nat → List Nat := hid fun a => pmS a 24
theorem permK_eq (a : List Nat) : permK a = pmS a 24 := by unfold permK; rw [hid_eq]
theorem permK_ln {a : List Nat} (h : Ln 25 a) : Ln 25 (permK a) := by rw [permK_eq]; exact pmS_ln h 24
noncomputable def u64B : Int → Bool := hid fun x => decide (0 ≤ x ∧ x < 18446744073709551616)
theorem u64B_iff {x : Int} : u64B x = true ↔ 0 ≤ x ∧ x < 18446744073709551616 := by unfold u64B; rw [hid_eq, decide_eq_true_eq]
theorem u64_nat {x : Nat} (h : x < 18446744073709551616) : u64B (x : Int) = true := u64B_iff.2 ⟨by omega, by omega⟩
noncomputable def laneG : List Value → Option Value
  | [.int .i64 x, .int .i64 y] => if 0 ≤ x ∧ x < 1000 ∧ 0 ≤ y ∧ y < 1000 then some (.int .i64 (5 * (y % 5) + x % 5)) else none
  | _ => none
noncomputable def rotG : List Value → Option Value
  | [.int .u64 x, .int .i64 k] => if u64B x = true ∧ 0 ≤ k ∧ k < 10000 then some (.int .u64 (rot x.toNat (k.toNat % 64) : Nat)) else none
  | _ => none
attribute [push_cast] laneG rotG
end Go.Ev
namespace Go.Proofs.YtpcjmmdgopihcaaGreatDoor
open Go Go.Ev Go.Proofs
set_option maxRecDepth 100000
set_option maxHeartbeats 4000000
theorem lane_ok (x y : Int) (h : 0 ≤ x ∧ x < 1000 ∧ 0 ≤ y ∧ y < 1000) : CallsV Tryz.prog 132 [.int .i64 x, .int .i64 y] [] (Ret0 (.int .i64 (5 * (y % 5) + x % 5))) := by
  obtain ⟨h1, h2, h3, h4⟩ := h
  have e1 : x.tmod 5 = x % 5 := Int.tmod_eq_emod_of_nonneg h1
  have e2 : y.tmod 5 = y % 5 := Int.tmod_eq_emod_of_nonneg h3
  refine callsO (noG_ok _) Tryz.mix Tryz.pl132 Tryz.func132 rfl Tryz.ntmps132 Tryz.results132 rfl (by first | rfl | assumption) (Nat.le_of_ble_eq_true rfl) (by kernel_rfl) ?_
  simp only [push_cast, Nat.reduceAdd, Nat.reduceSub, Nat.reduceMul, Nat.reduceLT, Nat.reduceLeDiff, Nat.reduceEqDiff, Nat.reduceMod, Nat.reduceDiv, Int.reduceAdd, Int.reduceSub, Int.reduceMul, Int.reduceLT, Int.reduceLE, Int.reduceEq, Int.reduceNeg, Int.reduceToNat, reduceIte, reduceCtorEq, Int.reduceBEq, Int.reduceBNe, e1, e2, wrap_i64' (show -9223372036854775808 ≤ 5 * (y % 5) ∧ 5 * (y % 5) ≤ 9223372036854775807 by omega), wrap_i64' (show -9223372036854775808 ≤ 5 * (y % 5) + x % 5 ∧ 5 * (y % 5) + x % 5 ≤ 9223372036854775807 by omega)]
theorem laneG_ok (args : List Value) (v : Value) (h : laneG args = some v) : CallsV Tryz.prog 132 args [] (Ret0 v) := by
  unfold laneG at h
  split at h
  · split at h
    · rename_i x y hh; cases h; exact lane_ok x y hh
    · cases h
  · cases h
theorem and63 {k : Nat} (hk : k < 10000) : bitsI .and .u64 (k : Int) 63 = ((k % 64 : Nat) : Int) := by
  have h := bits_and_u64_nat k 63 (by omega) (by decide)
  rw [show k &&& 63 = k % 64 from Nat.and_two_pow_sub_one_eq_mod k 6] at h
  exact h
theorem rotl_ok (x k : Nat) (hx : x < 18446744073709551616) (hk : k < 10000) : CallsV Tryz.prog 133 [.int .u64 x, .int .i64 k] [] (Ret0 (.int .u64 (rot x (k % 64) : Nat))) := by
  have hk2 : k % 64 < 64 := Nat.mod_lt _ (by decide)
  have h63 := and63 hk
  obtain ⟨s, hs⟩ : ∃ s, s = k % 64 := ⟨_, rfl⟩
  rw [← hs] at hk2 h63 ⊢
  have hr := rot_u64 hx hk2
  have w1 : IntKind.u64.wrap (k : Int) = (k : Int) := by rw [IntKind.wrap_u64]; omega
  have w2 : IntKind.u64.wrap (64 - (s : Int)) = 64 - (s : Int) := by rw [IntKind.wrap_u64]; omega
  have w3 : ¬ (64 - (s : Int) < 0) := by omega
  have w4 : ¬ ((s : Int) < 0) := by omega
  refine callsO (noG_ok _) Tryz.mix Tryz.pl133 Tryz.func133 rfl Tryz.ntmps133 Tryz.results133 rfl (by first | rfl | assumption) (Nat.le_of_ble_eq_true rfl) (by kernel_rfl) ?_
  simp only [push_cast, Nat.reduceAdd, Nat.reduceSub, Nat.reduceMul, Nat.reduceLT, Nat.reduceLeDiff, Nat.reduceEqDiff, Nat.reduceMod, Nat.reduceDiv, Int.reduceAdd, Int.reduceSub, Int.reduceMul, Int.reduceLT, Int.reduceLE, Int.reduceEq, Int.reduceNeg, Int.reduceToNat, reduceIte, reduceCtorEq, Int.reduceBEq, Int.reduceBNe, w1, h63, w2, w3, w4, hr]
theorem rotG_ok (args : List Value) (v : Value) (h : rotG args = some v) : CallsV Tryz.prog 133 args [] (Ret0 v) := by
  unfold rotG at h
  split at h
  · split at h
    · rename_i x k hh
      cases h
      obtain ⟨g0, g3, g4⟩ := hh
      obtain ⟨g1, g2⟩ := u64B_iff.1 g0
      obtain ⟨n, rfl⟩ : ∃ n : Nat, x = n := ⟨x.toNat, by omega⟩
      obtain ⟨m, rfl⟩ : ∃ m : Nat, k = m := ⟨k.toNat, by omega⟩
      exact rotl_ok n m (by omega) (by omega)
    · cases h
  · cases h
noncomputable def gI0 : Gam := (addG 133 rotG (addG 132 laneG noG))
attribute [push_cast] gI0
theorem gI0_ok : GamOk Tryz.prog gI0 := (addG_ok rotG_ok (addG_ok laneG_ok (noG_ok _)))
end Go.Proofs.YtpcjmmdgopihcaaGreatDoor
set_option linter.unusedSimpArgs false
set_option linter.unusedVariables false
namespace Go.Proofs.YtpcjmmdgopihcaaGreatDoor
open Go Go.Ev Go.Proofs
set_option maxRecDepth 100000
set_option maxHeartbeats 4000000
def plcV : List (List Value) := (List.range 25).map fun i => [.int .i64 (i % 5 : Nat), .int .i64 (i / 5 : Nat)]
theorem places1_ok : IterV Tryz.prog 149 [] [] plcV := by
  refine ⟨enterO Tryz.func149 rfl rfl, fun X Ho I St l x0 hro hmk h0 hy => ?_⟩
  have hm0 := hmk x0
  have yl : ∀ (j : Nat) (z : X) (a b : Value) (K' : Value → Hp → Prop), j < 25 → a = .int .i64 (j % 5 : Nat) → b = .int .i64 (j / 5 : Nat) → I j z → (∀ x', I (j + 1) x' → K' (.bool true) (Ho x')) → (∀ x', St x' → K' (.bool false) (Ho x')) → YieldV Tryz.prog l [a, b] (Ho z) K' := fun j z a b K' hj ha hb hi ht hf => by
    subst ha hb
    refine (hy j z [.int .i64 (j % 5 : Nat), .int .i64 (j / 5 : Nat)] (by unfold plcV; rw [List.getElem?_map, List.getElem?_range hj]; rfl) hi).frame (A := []) ?_ ?_
    · rintro v H' (⟨rfl, x', _, rfl⟩ | ⟨rfl, x', _, rfl⟩) <;> exact hro z x'
    · rintro v H' (⟨rfl, x', h, rfl⟩ | ⟨rfl, x', h, rfl⟩)
      · exact ht x' h
      · exact hf x' h
  have yf : ∀ (x' : X), (I plcV.length x' ∨ St x') → ∃ H'_1, List.Sublist H'_1 (dropM (Ho x')) ∧ ∃ z, (I plcV.length z ∨ St z) ∧ H'_1 = Ho z := fun x' hst => by
    refine ⟨Ho x', ?_, x', hst, rfl⟩
    rw [dropM_eq (hmk x')]
    exact List.Sublist.refl _
  have hvl : plcV.length = 25 := by unfold plcV; simp
  obtain ⟨vs, hvs⟩ : ∃ vs, vs = plcV := ⟨_, rfl⟩
  rw [← hvs] at yf hvl ⊢
  refine callsO gI0_ok Tryz.mix Tryz.pl149 Tryz.func149 rfl Tryz.ntmps149 Tryz.results149 rfl (by first | rfl | assumption) (Nat.le_of_ble_eq_true rfl) (by kernel_rfl) ?_
  simp only [push_cast, Nat.reduceAdd, Nat.reduceSub, Nat.reduceMul, Nat.reduceLT, Nat.reduceLeDiff, Nat.reduceEqDiff, Nat.reduceMod, Nat.reduceDiv, Int.reduceAdd, Int.reduceSub, Int.reduceMul, Int.reduceLT, Int.reduceLE, Int.reduceEq, Int.reduceNeg, Int.reduceToNat, reduceIte, reduceCtorEq, Int.reduceBEq, Int.reduceBNe]
  refine loopO gI0_ok (pl := Tryz.pl149) Tryz.mix (X := Nat × X)
    (fun s => ([(0, .func (.yield l) #[] #[]), (3, .int .i64 s.1)], Ho s.2))
    (fun s => s.1 ≤ 25 ∧ I s.1 s.2) (fun s => 25 - s.1) (0, x0) ?_ ?_ (by kernel_rfl) ?_
  · exact ⟨Nat.zero_le _, h0⟩
  · simp only [push_cast, Nat.reduceAdd, Nat.reduceSub, Nat.reduceMul, Nat.reduceLT, Nat.reduceLeDiff, Nat.reduceEqDiff, Nat.reduceMod, Nat.reduceDiv, Int.reduceAdd, Int.reduceSub, Int.reduceMul, Int.reduceLT, Int.reduceLE, Int.reduceEq, Int.reduceNeg, Int.reduceToNat, reduceIte, reduceCtorEq, Int.reduceBEq, Int.reduceBNe, hm0, subH_self]
  · rintro ⟨k, z⟩ ⟨hk, hi⟩
    dsimp only at hk hi ⊢
    by_cases hc : k < 25
    · have k1 : (k : Int) < 25 := by omega
      have e1 : (k : Int).tmod 5 = (k : Int) % 5 := Int.tmod_eq_emod_of_nonneg (by omega)
      have e2 : (k : Int).tdiv 5 = (k : Int) / 5 := Int.tdiv_eq_ediv_of_nonneg (by omega)
      simp only [push_cast, Nat.reduceAdd, Nat.reduceSub, Nat.reduceMul, Nat.reduceLT, Nat.reduceLeDiff, Nat.reduceEqDiff, Nat.reduceMod, Nat.reduceDiv, Int.reduceAdd, Int.reduceSub, Int.reduceMul, Int.reduceLT, Int.reduceLE, Int.reduceEq, Int.reduceNeg, Int.reduceToNat, reduceIte, reduceCtorEq, Int.reduceBEq, Int.reduceBNe, k1, hc, e1, e2, wrap_i64' (show -9223372036854775808 ≤ (k : Int) / 5 ∧ (k : Int) / 5 ≤ 9223372036854775807 by omega)]
      refine yl k z _ _ _ hc (by simp) (by simp) hi (fun x' hx' => ?_) (fun x' hx' => ?_)
      · simp only [push_cast, Nat.reduceAdd, Nat.reduceSub, Nat.reduceMul, Nat.reduceLT, Nat.reduceLeDiff, Nat.reduceEqDiff, Nat.reduceMod, Nat.reduceDiv, Int.reduceAdd, Int.reduceSub, Int.reduceMul, Int.reduceLT, Int.reduceLE, Int.reduceEq, Int.reduceNeg, Int.reduceToNat, reduceIte, reduceCtorEq, Int.reduceBEq, Int.reduceBNe, wrap_i64' (show -9223372036854775808 ≤ (k : Int) + 1 ∧ (k : Int) + 1 ≤ 9223372036854775807 by omega)]
        exact ⟨(k + 1, x'), ⟨by dsimp only; omega, hx'⟩, by dsimp only; omega, rfl, subH_self _, by simp only [hmk]⟩
      · simp only [push_cast, Nat.reduceAdd, Nat.reduceSub, Nat.reduceMul, Nat.reduceLT, Nat.reduceLeDiff, Nat.reduceEqDiff, Nat.reduceMod, Nat.reduceDiv, Int.reduceAdd, Int.reduceSub, Int.reduceMul, Int.reduceLT, Int.reduceLE, Int.reduceEq, Int.reduceNeg, Int.reduceToNat, reduceIte, reduceCtorEq, Int.reduceBEq, Int.reduceBNe]
        exact yf x' (.inr hx')
    · obtain rfl : k = 25 := by omega
      have k1 : ¬ ((25 : Nat) : Int) < 25 := by omega
      simp only [push_cast, Nat.reduceAdd, Nat.reduceSub, Nat.reduceMul, Nat.reduceLT, Nat.reduceLeDiff, Nat.reduceEqDiff, Nat.reduceMod, Nat.reduceDiv, Int.reduceAdd, Int.reduceSub, Int.reduceMul, Int.reduceLT, Int.reduceLE, Int.reduceEq, Int.reduceNeg, Int.reduceToNat, reduceIte, reduceCtorEq, Int.reduceBEq, Int.reduceBNe, k1, hc]
      exact yf z (.inl (by rw [hvl]; exact hi))
theorem places_ok : CallsV Tryz.prog 131 [] [] (fun v N => v = .func (.func 149) #[] #[] ∧ N = []) := by
  refine callsO gI0_ok Tryz.mix Tryz.pl131 Tryz.func131 rfl Tryz.ntmps131 Tryz.results131 rfl (by first | rfl | assumption) (Nat.le_of_ble_eq_true rfl) (by kernel_rfl) ?_
  simp only [push_cast, Nat.reduceAdd, Nat.reduceSub, Nat.reduceMul, Nat.reduceLT, Nat.reduceLeDiff, Nat.reduceEqDiff, Nat.reduceMod, Nat.reduceDiv, Int.reduceAdd, Int.reduceSub, Int.reduceMul, Int.reduceLT, Int.reduceLE, Int.reduceEq, Int.reduceNeg, Int.reduceToNat, reduceIte, reduceCtorEq, Int.reduceBEq, Int.reduceBNe]
  exact ⟨[], List.Sublist.refl _, rfl⟩
theorem plcV_at {k : Nat} {args : List Value} (h : plcV[k]? = some args) : k < 25 ∧ args = [.int .i64 (k % 5 : Nat), .int .i64 (k / 5 : Nat)] := by
  unfold plcV at h
  rw [List.getElem?_map] at h
  obtain ⟨j, hj, rfl⟩ := Option.map_eq_some_iff.1 h
  obtain ⟨h1, h2⟩ := List.getElem?_eq_some_iff.1 hj
  rw [List.getElem_range] at h2
  subst h2
  rw [List.length_range] at h1
  exact ⟨h1, rfl⟩
theorem plcV_two : ∀ args ∈ plcV, args.length = 2 := fun args h => by
  obtain ⟨j, -, rfl⟩ := List.mem_map.1 h
  rfl
theorem plcV_len : plcV.length = 25 := by unfold plcV; simp
end Go.Proofs.YtpcjmmdgopihcaaGreatDoor
