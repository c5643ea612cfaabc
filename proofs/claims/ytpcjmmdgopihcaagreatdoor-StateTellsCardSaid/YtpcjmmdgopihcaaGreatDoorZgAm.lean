/- Texts of this claim, merged by program: As Pb Ja Jb Jc Jd Je Jf Jg Jh EvX Ji Jj Jk Jl Jm Jn Jo Jp Va Vb Vc. -/
import Derived.Test.YtpcjmmdgopihcaaGreatDoorZgAl
import Derived.Test.YtpcjmmdgopihcaaGreatDoorZgAk
set_option linter.unusedSimpArgs false
set_option linter.unusedVariables false
set_option maxRecDepth 100000
set_option maxHeartbeats 4000000
namespace Go.Ev
theorem Ac.cells_sv {x : Ac} {sv sv' : Value} (h : x.cells sv = x.cells sv') : sv = sv' := by
 have h1 := x.slo26 sv
 rw [h, x.slo26 sv'] at h1
 simpa using h1.symm
theorem Ch.zeroL : Ch.zero.cells = [.int .i64 0, .int .u8 0, .int .u8 0, .int .u8 0, .int .u8 0, .int .u8 0, .int .u8 0, .int .u8 0, .int .u8 0, .int .u8 0, .int .u8 0, .int .u8 0, .int .u8 0, .int .u8 0, .int .u8 0, .int .u8 0, .int .u8 0, .int .u8 0, .int .u8 0, .int .u8 0, .int .u8 0, .int .u64 0, .int .u64 0, .int .u64 0, .int .u64 0, .int .u64 0, .int .u64 0, .int .u64 0, .int .u64 0, .int .i64 0, .string .empty] := rfl
end Go.Ev
namespace Go.Proofs.YtpcjmmdgopihcaaGreatDoor
open Go Go.Ev Go.Proofs
def plSDo : Plans := fun i => if i = 1 then [(0, 9)] else if i = 3 then [] else if i = 4 then [(0, 9)] else if i = 5 then [(0, 9)] else if i = 6 then [(0, 9)] else if i = 8 then [(0, 9)] else Tryz.pl25 i
attribute [push_cast] plSDo
theorem sdo_ok {M : Hp} {s : List Ac} {v : Value} {c : Ch} (hv : StR s v M) (hn : s.length ≤ 1000000000) (hsl' : ∀ y ∈ s, y.slots.length ≤ 2199023255551) : CallsW Tryz.prog 25 [v, c.v] M (DoO 31 (doS s c)) := by
 intro M0 hr he
 have hm := hr.marks
 replace hv := StR.rd _ _ _ _ he.symm hv
 obtain ⟨p, k, hvv⟩ : ∃ p k, v = .slice p s.length k := by
  obtain ⟨L, h1, h2, -⟩ := hv
  obtain ⟨p, k, h3⟩ := h2.slice
  exact ⟨p, k, by rw [h3, ← h1, List.length_map]⟩
 subst hvv
 refine callsO gA1_ok Tryz.mix plSDo Tryz.func25 rfl Tryz.ntmps25 Tryz.results25 rfl (by first | rfl | assumption) (Nat.le_of_ble_eq_true rfl) (by kernel_rfl) ?_
 simp only [push_cast, seval, reduceCtorEq]
 intro b3 hb3 b5 hb5
 have f3 : fresh b3 M0 := hb3
 have f5 : fresh b5 M0 := hb5.2.2
 refine regO gA1_ok ?_
 simp only [push_cast, seval, reduceCtorEq, hb5]
 refine useP [_, _] (fun M1 hr1 he1 => sright_ok (StR.rd _ _ _ _ he1.symm hv) hr1.marks (by omega)) ⟨f5, f3, trivial⟩ ?_
 cases hrs : rightS s
 case false =>
  have e : doS s c = (s, Ch.zero, 1) := by unfold doS; rw [if_pos hrs]
  rw [e]
  simp only [push_cast, seval, reduceCtorEq, hb5]
  refine useB [_, _] (mapped_ok hv hn hsl') (StO.rd _ _) hm ⟨f5, f3, trivial⟩ fun w N M1 hg hf hL hw hmN hq => ?_
  simp only [push_cast, seval, reduceCtorEq, hb5]
  exact doneN [_, _] hg hw hmN hf (DoO.rd _ _) ⟨_, rfl, hq⟩
 simp only [push_cast, seval, reduceCtorEq, hb5]
 obtain ⟨x, hx⟩ : ∃ x, x = findS s c.at_ := ⟨_, rfl⟩
 have hri := rightS_iff.1 hrs
 have hxm : mayA x = true := by rw [hx]; exact hri.findMay _
 have hxl := (mayA_slots hxm).len
 have hxl4 : x.slots.length ≤ 2199023255551 := by omega
 obtain ⟨x', u, e, hch⟩ : ∃ x' u e, chA x c = (x', u, e) := ⟨_, _, _, rfl⟩
 have hLX : freshN [⟨b5, 0, .cel 33, Ch.zero.cells⟩, ⟨b3, 0, .cel 33, c.cells⟩] M0 := ⟨f5, f3, trivial⟩
 have f3 : findE (⟨b5, 0, .cel 33, Ch.zero.cells⟩ :: ⟨b3, 0, .cel 33, c.cells⟩ :: M0) b3 = some ⟨b3, 0, .cel 33, c.cells⟩ := by
  simp only [push_cast, seval, reduceCtorEq, hb5]
 rw [← Ch.zeroL]
 refine drawS gA1_ok Tryz.mix [(0, .slice p s.length k), (3, .pointer (some ⟨b3, 0, none⟩)), (5, .pointer (some ⟨b5, 0, none⟩))]
   (fun i val => match i with
    | 0 => val 0 = .slice p s.length k
    | 1 => val 1 = .pointer (some ⟨b3, 1, none⟩)
    | 2 => val 2 = c.at_.v
    | 3 => ∃ p k, val 3 = .agg (x.cells (Value.slice p x.slots.length k)).toArray
    | 4 => val 4 = c.v
    | 5 => ∃ p k, val 5 = .tuple #[.agg (x'.cells (Value.slice p x'.slots.length k)).toArray, u.v, .int .i64 e]
    | 6 => val 6 = val 5 ∧ ∃ p k, val 5 = .tuple #[.agg (x'.cells (Value.slice p x'.slots.length k)).toArray, u.v, .int .i64 e]
    | 7 => ∃ p k, val 7 = .agg (x'.cells (Value.slice p x'.slots.length k)).toArray ∧ val 6 = .tuple #[val 7, u.v, .int .i64 e]
    | 8 => val 8 = u.v
    | 9 => val 9 = .int .i64 e
    | 10 => ∃ b, val 10 = .pointer (some ⟨b, 0, none⟩)
    | 11 => ∃ b, val 11 = .pointer (some ⟨b, 0, none⟩)
    | 14 => val 14 = .int .i64 e
    | _ => True)
   (fun i val N => match i with
    | 3 => allWr N ∧ marksOf N = [] ∧ AcR x (val 3) (N ++ M0)
    | 5 => allWr N ∧ marksOf N = [] ∧ ChR (x', u, e) (val 5) (N ++ M0)
    | 6 => N = []
    | 7 => N = []
    | 10 => ∃ b, val 10 = .pointer (some ⟨b, 0, none⟩) ∧ N = [⟨b, 0, .cel 31, Ac.zeroC⟩]
    | 11 => ∃ b, val 11 = .pointer (some ⟨b, 0, none⟩) ∧ N = [⟨b, 0, .cel 33, Ch.zero.cells⟩]
    | 12 => ∃ b p k, val 10 = .pointer (some ⟨b, 0, none⟩) ∧ val 7 = .agg (x'.cells (Value.slice p x'.slots.length k)).toArray ∧ N = [⟨b, 0, .cel 31, x'.cells (Value.slice p x'.slots.length k)⟩]
    | 13 => ∃ b, val 11 = .pointer (some ⟨b, 0, none⟩) ∧ N = [⟨b, 0, .cel 33, u.cells⟩]
    | _ => N = []) (fun i => if i = 5 then [3] else if i = 12 then [10] else if i = 13 then [11] else []) [5, 12, 13] (by kernel_rfl) (by kernel_rfl) (by kernel_rfl) ?_ (by rfl) (by decide) (by kernel_rfl) ?_ ?_ ?_ ?_ ?_
 · simp only [push_cast, seval, reduceCtorEq, subT]
 · intro i hi hiF
   replace hi : i < 15 := hi
   obtain rfl | rfl | rfl | rfl | rfl | rfl | rfl | rfl | rfl | rfl | rfl | rfl | rfl | rfl | rfl : i = 0 ∨ i = 1 ∨ i = 2 ∨ i = 3 ∨ i = 4 ∨ i = 5 ∨ i = 6 ∨ i = 7 ∨ i = 8 ∨ i = 9 ∨ i = 10 ∨ i = 11 ∨ i = 12 ∨ i = 13 ∨ i = 14 := by omega
   all_goals first
    | exact .inl fun _ _ h => h
    | exact absurd (by decide) hiF
    | exact .inr (by kernel_rfl)
 · intro i o ho val val' h1 h2 hV
   have hi := (Array.getElem?_eq_some_iff.1 ho).1
   replace hi : i < 15 := hi
   obtain rfl | rfl | rfl | rfl | rfl | rfl | rfl | rfl | rfl | rfl | rfl | rfl | rfl | rfl | rfl : i = 0 ∨ i = 1 ∨ i = 2 ∨ i = 3 ∨ i = 4 ∨ i = 5 ∨ i = 6 ∨ i = 7 ∨ i = 8 ∨ i = 9 ∨ i = 10 ∨ i = 11 ∨ i = 12 ∨ i = 13 ∨ i = 14 := by omega
   · first
      | exact trivial
      | exact hV
      | exact h1.trans hV
      | (rw [h1]; exact hV)
   · first
      | exact trivial
      | exact hV
      | exact h1.trans hV
      | (rw [h1]; exact hV)
   · first
      | exact trivial
      | exact hV
      | exact h1.trans hV
      | (rw [h1]; exact hV)
   · first
      | exact trivial
      | exact hV
      | exact h1.trans hV
      | (rw [h1]; exact hV)
   · first
      | exact trivial
      | exact hV
      | exact h1.trans hV
      | (rw [h1]; exact hV)
   · first
      | exact trivial
      | exact hV
      | exact h1.trans hV
      | (rw [h1]; exact hV)
   · simp only [List.getElem?_toArray, List.getElem?_cons_zero, List.getElem?_cons_succ, Option.some.injEq] at ho; subst ho
     have h5 := h2 5 (by kernel_rfl)
     obtain ⟨a1, p5, k5, a2⟩ := hV
     exact ⟨by rw [h1, h5]; exact a1, p5, k5, by rw [h5]; exact a2⟩
   · simp only [List.getElem?_toArray, List.getElem?_cons_zero, List.getElem?_cons_succ, Option.some.injEq] at ho; subst ho
     have h6 := h2 6 (by kernel_rfl)
     obtain ⟨p5, k5, a1, a2⟩ := hV
     exact ⟨p5, k5, by rw [h1]; exact a1, by rw [h6, h1]; exact a2⟩
   · first
      | exact trivial
      | exact hV
      | exact h1.trans hV
      | (rw [h1]; exact hV)
   · first
      | exact trivial
      | exact hV
      | exact h1.trans hV
      | (rw [h1]; exact hV)
   · first
      | exact trivial
      | exact hV
      | exact h1.trans hV
      | (rw [h1]; exact hV)
   · first
      | exact trivial
      | exact hV
      | exact h1.trans hV
      | (rw [h1]; exact hV)
   · first
      | exact trivial
      | exact hV
      | exact h1.trans hV
      | (rw [h1]; exact hV)
   · first
      | exact trivial
      | exact hV
      | exact h1.trans hV
      | (rw [h1]; exact hV)
   · first
      | exact trivial
      | exact hV
      | exact h1.trans hV
      | (rw [h1]; exact hV)
 · intro i o ho val val' N h1 h2 hQ
   have hi := (Array.getElem?_eq_some_iff.1 ho).1
   replace hi : i < 15 := hi
   obtain rfl | rfl | rfl | rfl | rfl | rfl | rfl | rfl | rfl | rfl | rfl | rfl | rfl | rfl | rfl : i = 0 ∨ i = 1 ∨ i = 2 ∨ i = 3 ∨ i = 4 ∨ i = 5 ∨ i = 6 ∨ i = 7 ∨ i = 8 ∨ i = 9 ∨ i = 10 ∨ i = 11 ∨ i = 12 ∨ i = 13 ∨ i = 14 := by omega
   · first
      | exact trivial
      | exact hQ
      | exact h1.trans hQ
      | (rw [h1]; exact hQ)
   · first
      | exact trivial
      | exact hQ
      | exact h1.trans hQ
      | (rw [h1]; exact hQ)
   · first
      | exact trivial
      | exact hQ
      | exact h1.trans hQ
      | (rw [h1]; exact hQ)
   · first
      | exact trivial
      | exact hQ
      | exact h1.trans hQ
      | (rw [h1]; exact hQ)
   · first
      | exact trivial
      | exact hQ
      | exact h1.trans hQ
      | (rw [h1]; exact hQ)
   · first
      | exact trivial
      | exact hQ
      | exact h1.trans hQ
      | (rw [h1]; exact hQ)
   · first
      | exact trivial
      | exact hQ
      | exact h1.trans hQ
      | (rw [h1]; exact hQ)
   · first
      | exact trivial
      | exact hQ
      | exact h1.trans hQ
      | (rw [h1]; exact hQ)
   · first
      | exact trivial
      | exact hQ
      | exact h1.trans hQ
      | (rw [h1]; exact hQ)
   · first
      | exact trivial
      | exact hQ
      | exact h1.trans hQ
      | (rw [h1]; exact hQ)
   · first
      | exact trivial
      | exact hQ
      | exact h1.trans hQ
      | (rw [h1]; exact hQ)
   · first
      | exact trivial
      | exact hQ
      | exact h1.trans hQ
      | (rw [h1]; exact hQ)
   · simp only [List.getElem?_toArray, List.getElem?_cons_zero, List.getElem?_cons_succ, Option.some.injEq] at ho; subst ho
     have h10 := h2 10 (by kernel_rfl)
     have h7 := h2 7 (by kernel_rfl)
     obtain ⟨b, p, k, a1, a2, a3⟩ := hQ
     exact ⟨b, p, k, by rw [h10]; exact a1, by rw [h7]; exact a2, a3⟩
   · simp only [List.getElem?_toArray, List.getElem?_cons_zero, List.getElem?_cons_succ, Option.some.injEq] at ho; subst ho
     have h11 := h2 11 (by kernel_rfl)
     obtain ⟨b, a1, a3⟩ := hQ
     exact ⟨b, by rw [h11]; exact a1, a3⟩
   · first
      | exact trivial
      | exact hQ
      | exact h1.trans hQ
      | (rw [h1]; exact hQ)
 · intro i o ho T' Y val mem hT hdep hus hfr hY hmY hapY
   have hi := (Array.getElem?_eq_some_iff.1 ho).1
   replace hi : i < 15 := hi
   have y3 := hY _ _ f3
   have hM0Y : ∀ b e, findE M0 b = some e → findE Y b = some e := fun b e h => hY b e (find_behind hLX b e h)
   have t0 : getT T' 0 = some (.slice p s.length k) := hT.1
   have t3 : getT T' 3 = some (.pointer (some ⟨b3, 0, none⟩)) := hT.2.1
   obtain rfl | rfl | rfl | rfl | rfl | rfl | rfl | rfl | rfl | rfl | rfl | rfl | rfl | rfl | rfl : i = 0 ∨ i = 1 ∨ i = 2 ∨ i = 3 ∨ i = 4 ∨ i = 5 ∨ i = 6 ∨ i = 7 ∨ i = 8 ∨ i = 9 ∨ i = 10 ∨ i = 11 ∨ i = 12 ∨ i = 13 ∨ i = 14 := by omega
   · simp only [List.getElem?_toArray, List.getElem?_cons_zero, List.getElem?_cons_succ, Option.some.injEq] at ho; subst ho
     simp only [push_cast, seval, reduceCtorEq, List.flatMap_nil, List.flatMap_cons, List.append_nil, List.nil_append, t0]
     exact ⟨[], rfl, trivial, rfl, upd_self _ _ _, rfl⟩
   · simp only [List.getElem?_toArray, List.getElem?_cons_zero, List.getElem?_cons_succ, Option.some.injEq] at ho; subst ho
     simp only [push_cast, seval, reduceCtorEq, List.flatMap_nil, List.flatMap_cons, List.append_nil, List.nil_append, t3]
     exact ⟨[], rfl, trivial, rfl, upd_self _ _ _, rfl⟩
   · simp only [List.getElem?_toArray, List.getElem?_cons_zero, List.getElem?_cons_succ, Option.some.injEq] at ho; subst ho
     obtain ⟨v1, g1⟩ := hdep 1 (by kernel_rfl)
     replace g1 := g1 19 rfl
     rw [show val 1 = _ from v1] at g1
     simp only [push_cast, seval, reduceCtorEq, List.flatMap_nil, List.flatMap_cons, List.append_nil, List.nil_append, g1, y3]
     exact ⟨[], rfl, trivial, rfl, upd_self _ _ _, rfl⟩
   · simp only [List.getElem?_toArray, List.getElem?_cons_zero, List.getElem?_cons_succ, Option.some.injEq] at ho; subst ho
     obtain ⟨v0, g0⟩ := hdep 0 (by kernel_rfl)
     replace g0 := g0 18 rfl
     rw [show val 0 = _ from v0] at g0
     obtain ⟨v2, g2⟩ := hdep 2 (by kernel_rfl)
     replace g2 := g2 20 rfl
     rw [show val 2 = _ from v2] at g2
     simp only [push_cast, seval, reduceCtorEq, List.flatMap_nil, List.flatMap_cons, List.append_nil, List.nil_append, g0, g2]
     refine callS (M := M0) (by have := sfind_ok (a := c.at_) hv hn hsl'; rw [← hx] at this; exact this) (AcR.rd _) hM0Y fun w N hw hm1 hf hq => ⟨N, rfl, hw, hm1, ?_, ?_⟩
     · obtain ⟨sv, rfl, hsv⟩ := hq
       obtain ⟨p1, k1, rfl⟩ := hsv.slice
       exact ⟨p1, k1, by rw [upd_self]⟩
     · rw [upd_self]; exact ⟨hw, hm1, hq⟩
   · simp only [List.getElem?_toArray, List.getElem?_cons_zero, List.getElem?_cons_succ, Option.some.injEq] at ho; subst ho
     simp only [push_cast, seval, reduceCtorEq, List.flatMap_nil, List.flatMap_cons, List.append_nil, List.nil_append, t3, y3]
     exact ⟨[], rfl, trivial, rfl, upd_self _ _ _, rfl⟩
   · simp only [List.getElem?_toArray, List.getElem?_cons_zero, List.getElem?_cons_succ, Option.some.injEq] at ho; subst ho
     obtain ⟨v3, g3⟩ := hdep 3 (by kernel_rfl)
     replace g3 := g3 21 rfl
     obtain ⟨v4, g4⟩ := hdep 4 (by kernel_rfl)
     replace g4 := g4 22 rfl
     rw [show val 4 = _ from v4] at g4
     obtain ⟨p3, k3, v3⟩ := v3
     obtain ⟨w3, m3, sv3, hq3a, hq3⟩ := hus 3 (List.mem_singleton.2 rfl)
     have v3 : val 3 = _ := v3
     have hq3a : val 3 = _ := hq3a
     rw [hq3a] at v3
     have hsv3 : sv3 = Value.slice p3 x.slots.length k3 := Ac.cells_sv (by injection v3 with h; simpa using congrArg Array.toList h)
     subst hsv3
     rw [hq3a] at g3
     have fr3 : freshN (mem 3) Y := by simpa using hfr
     simp only [push_cast, seval, reduceCtorEq, List.flatMap_nil, List.flatMap_cons, List.append_nil, List.nil_append, g3, g4]
     refine callS (M := mem 3 ++ M0) (by have := changed_ok (c := c) hq3 hxl4; rw [hch] at this; exact this) (ChR.rd _) (find_front hM0Y) fun w N hw hm1 hf hq => ⟨N ++ mem 3, by rw [List.append_assoc], allWr_app hw w3, by rw [marks_append, hm1, m3]; rfl, ?_, ?_⟩
     · obtain ⟨sv, rfl, hsv⟩ := hq
       obtain ⟨p1, k1, rfl⟩ := hsv.slice
       exact ⟨p1, k1, by rw [upd_self]⟩
     · rw [upd_self]
       refine ⟨allWr_app hw w3, by rw [marks_append, hm1, m3]; rfl, ?_⟩
       rw [List.append_assoc]; exact hq
   · simp only [List.getElem?_toArray, List.getElem?_cons_zero, List.getElem?_cons_succ, Option.some.injEq] at ho; subst ho
     obtain ⟨v5, g5⟩ := hdep 5 (by kernel_rfl)
     replace g5 := g5 23 rfl
     simp only [push_cast, seval, reduceCtorEq, List.flatMap_nil, List.flatMap_cons, List.append_nil, List.nil_append, g5]
     obtain ⟨p5, k5, v5⟩ := v5
     refine ⟨[], rfl, trivial, rfl, ⟨?_, p5, k5, ?_⟩, rfl⟩
     · simp [upd]
     · simpa [upd] using v5
   · simp only [List.getElem?_toArray, List.getElem?_cons_zero, List.getElem?_cons_succ, Option.some.injEq] at ho; subst ho
     obtain ⟨v6, g6⟩ := hdep 6 (by kernel_rfl)
     replace g6 := g6 17 rfl
     obtain ⟨v6, p5, k5, v5⟩ := v6
     have v6 : val 6 = _ := v6
     rw [v6, v5] at g6
     simp only [push_cast, seval, reduceCtorEq, List.flatMap_nil, List.flatMap_cons, List.append_nil, List.nil_append, g6]
     refine ⟨[], rfl, trivial, rfl, ⟨p5, k5, ?_, ?_⟩, rfl⟩
     · simp [upd]
     · simp [upd, v6, v5]
   · simp only [List.getElem?_toArray, List.getElem?_cons_zero, List.getElem?_cons_succ, Option.some.injEq] at ho; subst ho
     obtain ⟨v6, g6⟩ := hdep 6 (by kernel_rfl)
     replace g6 := g6 17 rfl
     obtain ⟨v6, p5, k5, v5⟩ := v6
     have v6 : val 6 = _ := v6
     rw [v6, v5] at g6
     simp only [push_cast, seval, reduceCtorEq, List.flatMap_nil, List.flatMap_cons, List.append_nil, List.nil_append, g6]
     exact ⟨[], rfl, trivial, rfl, upd_self _ _ _, rfl⟩
   · simp only [List.getElem?_toArray, List.getElem?_cons_zero, List.getElem?_cons_succ, Option.some.injEq] at ho; subst ho
     obtain ⟨v6, g6⟩ := hdep 6 (by kernel_rfl)
     replace g6 := g6 17 rfl
     obtain ⟨v6, p5, k5, v5⟩ := v6
     have v6 : val 6 = _ := v6
     rw [v6, v5] at g6
     simp only [push_cast, seval, reduceCtorEq, List.flatMap_nil, List.flatMap_cons, List.append_nil, List.nil_append, g6]
     exact ⟨[], rfl, trivial, rfl, upd_self _ _ _, rfl⟩
   · simp only [List.getElem?_toArray, List.getElem?_cons_zero, List.getElem?_cons_succ, Option.some.injEq] at ho; subst ho
     simp only [push_cast, seval, reduceCtorEq, List.flatMap_nil, List.flatMap_cons, List.append_nil, List.nil_append]
     intro b hf
     exact ⟨[_], rfl, ⟨trivial, trivial⟩, rfl, ⟨b, upd_self _ _ _⟩, b, upd_self _ _ _, rfl⟩
   · simp only [List.getElem?_toArray, List.getElem?_cons_zero, List.getElem?_cons_succ, Option.some.injEq] at ho; subst ho
     simp only [push_cast, seval, reduceCtorEq, List.flatMap_nil, List.flatMap_cons, List.append_nil, List.nil_append]
     intro b hf
     exact ⟨[_], rfl, ⟨trivial, trivial⟩, rfl, ⟨b, upd_self _ _ _⟩, b, upd_self _ _ _, rfl⟩
   · simp only [List.getElem?_toArray, List.getElem?_cons_zero, List.getElem?_cons_succ, Option.some.injEq] at ho; subst ho
     obtain ⟨v7, g7⟩ := hdep 7 (by kernel_rfl)
     replace g7 := g7 24 rfl
     obtain ⟨v10, g10⟩ := hdep 10 (by kernel_rfl)
     replace g10 := g10 7 rfl
     obtain ⟨p7, k7, v7, -⟩ := v7
     have v7 : val 7 = _ := v7
     rw [v7] at g7
     obtain ⟨b10, v10, hN⟩ := hus 10 (List.mem_singleton.2 rfl)
     have v10 : val 10 = _ := v10
     rw [v10] at g10
     simp only [push_cast, seval, reduceCtorEq, List.flatMap_nil, List.flatMap_cons, List.append_nil, List.nil_append, g7, g10, hN, List.cons_append, Ac.zeroC]
     refine ⟨[_], rfl, ⟨trivial, trivial⟩, rfl, b10, p7, k7, ?_, ?_, rfl⟩
     · simp [upd, v10]
     · simp [upd, v7]
   · simp only [List.getElem?_toArray, List.getElem?_cons_zero, List.getElem?_cons_succ, Option.some.injEq] at ho; subst ho
     obtain ⟨v8, g8⟩ := hdep 8 (by kernel_rfl)
     replace g8 := g8 25 rfl
     rw [show val 8 = _ from v8] at g8
     obtain ⟨v11, g11⟩ := hdep 11 (by kernel_rfl)
     replace g11 := g11 8 rfl
     obtain ⟨b11, v11, hN⟩ := hus 11 (List.mem_singleton.2 rfl)
     have v11 : val 11 = _ := v11
     rw [v11] at g11
     simp only [push_cast, seval, reduceCtorEq, List.flatMap_nil, List.flatMap_cons, List.append_nil, List.nil_append, g8, g11, hN, List.cons_append, Ch.zeroL]
     exact ⟨[_], rfl, ⟨trivial, trivial⟩, rfl, b11, by simp [upd, v11], rfl⟩
   · simp only [List.getElem?_toArray, List.getElem?_cons_zero, List.getElem?_cons_succ, Option.some.injEq] at ho; subst ho
     obtain ⟨v9, g9⟩ := hdep 9 (by kernel_rfl)
     replace g9 := g9 26 rfl
     rw [show val 9 = _ from v9] at g9
     simp only [push_cast, seval, reduceCtorEq, List.flatMap_nil, List.flatMap_cons, List.append_nil, List.nil_append, g9]
     exact ⟨[], rfl, trivial, rfl, upd_self _ _ _, rfl⟩
 · intro val mem hV hQ hap hwr
   obtain ⟨p5, k5, v5⟩ := hV 5 (by decide)
   obtain ⟨w5, m5, sv5, hq5a, hq5⟩ := hQ 5 (by decide)
   obtain ⟨b7, p7, k7, v10, v7, hN12⟩ := hQ 12 (by decide)
   obtain ⟨b8, v11, hN13⟩ := hQ 13 (by decide)
   obtain ⟨h6, -⟩ := hV 6 (by decide)
   obtain ⟨-, -, -, h76⟩ := hV 7 (by decide)
   have v8 : val 8 = u.v := hV 8 (by decide)
   have v9 : val 9 = .int .i64 e := hV 9 (by decide)
   have v14 : val 14 = .int .i64 e := hV 14 (by decide)
   have v10 : val 10 = _ := v10
   have v11 : val 11 = _ := v11
   have v7 : val 7 = _ := v7
   have hq5a : val 5 = _ := hq5a
   have h6 : val 6 = val 5 := h6
   have h76 : val 6 = .tuple #[val 7, u.v, .int .i64 e] := h76
   rw [h6, hq5a, v7] at h76
   have hs5 : sv5 = Value.slice p7 x'.slots.length k7 := Ac.cells_sv (by injection h76 with h; have h1 := congrArg Array.toList h; simp only [List.cons.injEq, Value.agg.injEq] at h1; simpa using congrArg Array.toList h1.1)
   subst hs5
   have hMM : List.flatMap mem [5, 12, 13] ++ (⟨b5, 0, .cel 33, Ch.zero.cells⟩ :: ⟨b3, 0, .cel 33, c.cells⟩ :: M0) = mem 5 ++ (⟨b7, 0, .cel 31, x'.cells (Value.slice p7 x'.slots.length k7)⟩ :: ⟨b8, 0, .cel 33, u.cells⟩ :: ⟨b5, 0, .cel 33, Ch.zero.cells⟩ :: ⟨b3, 0, .cel 33, c.cells⟩ :: M0) := by
    simp only [List.flatMap_cons, List.flatMap_nil, List.append_nil, hN12, hN13, List.append_assoc, List.cons_append, List.nil_append]
   rw [hMM] at hap ⊢
   have a5 := freshN_apart hap w5
   have hap' := (List.pairwise_append.1 hap).2.1
   have a7 := freshN_apart (A := [⟨b7, 0, .cel 31, x'.cells (Value.slice p7 x'.slots.length k7)⟩]) hap' ⟨trivial, trivial⟩
   have a8 := freshN_apart (A := [⟨b8, 0, .cel 33, u.cells⟩]) (List.pairwise_cons.1 hap').2 ⟨trivial, trivial⟩
   have q57 := freshN_sym a5
   have hb7 := a7.1
   have hb8 := a8.1
   simp only [push_cast, seval, reduceCtorEq] at hb7 hb8
   have f70 : fresh b7 (M0 ++ mem 5) := fresh_app_iff.2 ⟨hb7.2.2.2.2.2.2, q57.1⟩
   have f80 : fresh b8 (M0 ++ mem 5) := fresh_app_iff.2 ⟨hb8.2.2.2.2, q57.2.1⟩
   have f50 : fresh b5 (M0 ++ mem 5) := fresh_app_iff.2 ⟨f5, q57.2.2.1⟩
   have f30 : fresh b3 (M0 ++ mem 5) := fresh_app_iff.2 ⟨hb3, q57.2.2.2.1⟩
   have hg1 : Gr M0 (M0 ++ mem 5) := ⟨hm, mem 5, rfl, w5, m5⟩
   have hl5 : LiR Sl.cells 8 (M0 ++ mem 5) x'.slots (Value.slice p7 x'.slots.length k7) := hq5.congr (cellsAt_swap (freshN_cons (freshN_cons (freshN_cons (freshN_cons a5)))))
   simp only [push_cast, seval, reduceCtorEq, v7, v8, v9, v10, v11, v14]
   refine WpV.perm (H' := ⟨b7, 0, .cel 31, x'.cells (Value.slice p7 x'.slots.length k7)⟩ :: ⟨b8, 0, .cel 33, u.cells⟩ :: ⟨b5, 0, .cel 33, Ch.zero.cells⟩ :: ⟨b3, 0, .cel 33, c.cells⟩ :: (M0 ++ mem 5)) ?_ ?_ ?_
   · exact List.perm_append_comm
   · simp [marks_append, marksOf, m5, hm]
   refine WpV.slots [(0, .slice p s.length k), (5, .pointer (some ⟨b5, 0, none⟩)), (7, .pointer (some ⟨b7, 0, none⟩)), (8, .pointer (some ⟨b8, 0, none⟩)), (9, .int .i64 e)] (by simp only [push_cast, seval, reduceCtorEq]) ?_
   generalize M0 ++ mem 5 = M1 at hg1 hl5 f70 f80 f50 f30 ⊢
   have hv1 : StR s (.slice p s.length k) M1 := hv.ext hg1.ext
   refine regO gA1_ok ?_
   have hx3 : (chA (findS s c.at_) c).1 = x' := by rw [← hx, hch]
   have hu3 : (chA (findS s c.at_) c).2.1 = u := by rw [← hx, hch]
   have hc3 : (chA (findS s c.at_) c).2.2 = e := by rw [← hx, hch]
   by_cases hz0 : e = 0
   case neg =>
    have hz1 : (e != 0) = true := by rw [bne_iff_ne]; exact hz0
    have hdo : doS s c = (s, Ch.zero, e) := by
     unfold doS
     rw [if_neg (by rw [hrs]; simp), hc3, if_pos hz0]
    rw [hdo]
    simp only [push_cast, seval, reduceCtorEq, hz1]
    refine regO gA1_ok ?_
    simp only [push_cast, seval, reduceCtorEq]
    refine useB [_, _, _, _] (mapped_ok hv1 hn hsl') (StO.rd _ _) hg1.marks ⟨f70, f80, f50, f30, trivial⟩ fun w N8 M8 hg8 hf8 hL8 hw8 hm8 hq8 => ?_
    simp only [push_cast, seval, reduceCtorEq, hb5, hb7, hb8]
    exact doneN [_, _, _, _] (hg1.trans hg8) hw8 hm8 hf8 (DoO.rd _ _) ⟨_, rfl, hq8⟩
   have hz1 : (e != 0) = false := by rw [hz0]; rfl
   simp only [push_cast, seval, reduceCtorEq, hz1]
   refine regO gA1_ok ?_
   simp only [push_cast, seval, reduceCtorEq, hb5, hb7, hb8]
   refine useB [_, _, _, _] (sset_ok (x := x') hv1 hl5 hn) (SetO.rd _ _) hg1.marks ⟨f70, f80, f50, f30, trivial⟩ fun w N9 M9 hg9 hf9 hL9 hw9 hm9 hq9 => ?_
   obtain ⟨w9, rfl, hst9⟩ := hq9
   obtain ⟨p9, k9, rfl⟩ : ∃ p k, w9 = .slice p (setS s x').1.length k := by
    obtain ⟨L, h1, h2, -⟩ := hst9
    obtain ⟨p, k, h3⟩ := h2.slice
    exact ⟨p, k, by rw [h3, ← h1, List.length_map]⟩
   by_cases hz : (setS s x').2 = 0
   · have hz1 : ((setS s x').2 != 0) = false := by rw [hz]; rfl
     have hdo : doS s c = ((setS s x').1, u, 0) := by
      unfold doS
      rw [if_neg (by rw [hrs]; simp), hc3, if_neg (by simpa using hz0), hx3, if_neg (by simpa using hz), hu3]
     rw [hdo]
     simp only [push_cast, seval, reduceCtorEq, hb5, hb7, hb8, hz1]
     exact doneN [_, _, _, _] (hg1.trans hg9) hw9 hm9 hf9 (DoO.rd _ _) ⟨_, rfl, hst9⟩
   · have hz1 : ((setS s x').2 != 0) = true := by rw [bne_iff_ne]; exact hz
     have hdo : doS s c = (s, Ch.zero, (setS s x').2) := by
      unfold doS
      rw [if_neg (by rw [hrs]; simp), hc3, if_neg (by simpa using hz0), hx3, if_pos hz]
     rw [hdo]
     obtain ⟨e9, he9⟩ : ∃ e, e = (setS s x').2 := ⟨_, rfl⟩
     rw [← he9]
     rw [← he9] at hz1
     simp only [push_cast, seval, reduceCtorEq, hb5, hb7, hb8, hz1]
     have hL99 := freshN_appR hL9
     refine WpV.sub (s := ([(0, .slice p s.length k), (5, .pointer (some ⟨b5, 0, none⟩)), (9, .int .i64 e9)], ⟨b5, 0, .cel 33, Ch.zero.cells⟩ :: M9)) ⟨by simp only [push_cast, seval, reduceCtorEq], ?_, ?_⟩ ?_
     · exact subH_pick (by exact hb7.2.2.2.1) (by exact hb8.2.1) (by exact hL99.1) (by exact hL99.2.1) (by exact hL99.2.2.2.1) hf9
     · simp [marks_append, marksOf, hm9]
     have f59 : fresh b5 M9 := hL99.2.2.1
     refine regO gA1_ok ?_
     simp only [push_cast, seval, reduceCtorEq]
     refine useB [_] (mapped_ok ((StR.ext (hg1.trans hg9).ext hv)) hn hsl') (StO.rd _ _) hg9.marks ⟨f59, trivial⟩ fun w N8 M8 hg8 hf8 hL8 hw8 hm8 hq8 => ?_
     simp only [push_cast, seval, reduceCtorEq]
     exact doneN [_] ((hg1.trans hg9).trans hg8) hw8 hm8 hf8 (DoO.rd _ _) ⟨_, rfl, hq8⟩
end Go.Proofs.YtpcjmmdgopihcaaGreatDoor
namespace Go.Ev
end Go.Ev
namespace Go.Ev
theorem Ac.ext {x y : Ac} (h1 : x.at_ = y.at_) (h2 : x.bal = y.bal) (h3 : x.nonce = y.nonce) (h4 : x.code = y.code) (h5 : x.slots = y.slots) : x = y := by
 cases x; cases y; cases h1; cases h2; cases h3; cases h4; cases h5; rfl
theorem code_eq {a b : ByteArray} : (a.toList == b.toList) = decide (a = b) := by
 rw [ByteArray.toList_eq, ByteArray.toList_eq, Bool.eq_iff_iff, beq_iff_eq, decide_eq_true_eq]
 constructor
 · intro h
   cases a with | mk x => cases b with | mk y => rw [show x = y from Array.toList_inj.1 h]
 · rintro rfl; rfl
instance : DecidableEq Jo := fun x y => if h : x.state = y.state ∧ x.undo = y.undo ∧ x.marks = y.marks then .isTrue (by cases x; cases y; obtain ⟨h1, h2, h3⟩ := h; cases h1; cases h2; cases h3; rfl) else .isFalse fun e => h (by rw [e]; exact ⟨rfl, rfl, rfl⟩)
def chK : List CK := .i :: (List.replicate 20 .i ++ ([.i, .i, .i, .i] ++ ([.i, .i, .i, .i] ++ [.i, .s])))
theorem Ch.ext {x y : Ch} (h1 : x.kind = y.kind) (h2 : x.at_ = y.at_) (h3 : x.key = y.key) (h4 : x.val = y.val) (h5 : x.nonce = y.nonce) (h6 : x.code = y.code) : x = y := by
 cases x; cases y; cases h1; cases h2; cases h3; cases h4; cases h5; cases h6; rfl
theorem Ch.eqC (x y : Ch) : eqC chK x.cells y.cells = some (decide (x = y)) := by
 have h1 := eqC_cat (Ad.eqC x.at_ y.at_) (eqC_cat (W.eqC x.key y.key) (eqC_cat (W.eqC x.val y.val) (show Ev.eqC [.i, .s] [.int .i64 x.nonce, .string x.code] [.int .i64 y.nonce, .string y.code] = some ((x.nonce == y.nonce) && ((x.code.toList == y.code.toList) && true)) from rfl)))
 unfold chK Ch.cells
 rw [Ev.eqC, if_pos rfl, h1, Option.map_some, code_eq]
 congr 1
 rw [Bool.eq_iff_iff, decide_eq_true_eq]
 simp only [Bool.and_eq_true, beq_iff_eq, decide_eq_true_eq, and_true]
 exact ⟨fun ⟨a1, a2, a3, a4, a5, a6⟩ => Ch.ext a1 a2 a3 a4 a5 a6, fun h => by rw [h]; exact ⟨rfl, rfl, rfl, rfl, rfl, rfl⟩⟩
theorem Ch.eqV {P : Program} {t : TypeId} (x y : Ch) (h1 : tyI P t = some (31, true)) (h2 : P.eqGuardType P.depth t = false) (h3 : flatK P 12 t = some chK) : eqV P t x.v y.v = some (decide (x = y)) := by
 unfold Ev.eqV Ch.v
 simp only [h1, h2, h3, Bool.false_eq_true, if_false, Option.bind_some]
 exact Ch.eqC x y
end Go.Ev
namespace Go.Proofs.YtpcjmmdgopihcaaGreatDoor
open Go Go.Ev Go.Proofs
theorem ch_ty : tyI Tryz.prog 33 = some (31, true) := by kernel_rfl
theorem ch_eg : Program.eqGuardType Tryz.prog (Program.depth Tryz.prog) 33 = false := by kernel_rfl
theorem ch_fl : flatK Tryz.prog 12 33 = some chK := by kernel_rfl
theorem ch_neq (x y : Ch) : binQ Tryz.prog .neq 33 x.v y.v = some (.bool (!decide (x = y))) := by
 show (Ev.eqV Tryz.prog 33 x.v y.v).map (fun r => Value.bool !r) = _
 rw [Ch.eqV x y ch_ty ch_eg ch_fl]; rfl
theorem ch_eql (x y : Ch) : binQ Tryz.prog .eql 33 x.v y.v = some (.bool (decide (x = y))) := by
 show (Ev.eqV Tryz.prog 33 x.v y.v).map Value.bool = _
 rw [Ch.eqV x y ch_ty ch_eg ch_fl]; rfl
attribute [push_cast high] ch_neq ch_eql
theorem sameAc_ok {M : Hp} {x y : Ac} {sx sy : Value} (hx : LiR Sl.cells 8 M x.slots sx) (hy : LiR Sl.cells 8 M y.slots sy) (hm : marksOf M = []) (h1 : x.slots.length ≤ 2199023255551) (h2 : y.slots.length ≤ 2199023255551) : CallsV Tryz.prog 19 [.agg (x.cells sx).toArray, .agg (y.cells sy).toArray] M (Ret0 (.bool (decide (x = y)))) := by
 obtain ⟨p, k, rfl⟩ := hx.slice
 obtain ⟨q, n, rfl⟩ := hy.slice
 have va : ∀ w : W, Value.agg w.cells.toArray = w.v := fun _ => rfl
 refine callsO gA1_ok Tryz.mix (fun i => if i = 1 then [(0, 9)] else Tryz.pl19 i) Tryz.func19 rfl Tryz.ntmps19 Tryz.results19 rfl (by first | rfl | assumption) (Nat.le_of_ble_eq_true rfl) (by kernel_rfl) ?_
 simp only [push_cast, seval, reduceCtorEq]
 intro b2 hb2 b3 hb3
 refine regO gA1_ok ?_
 by_cases c1 : x.at_ = y.at_
 case neg =>
  have e : decide (x = y) = false := decide_eq_false fun h => c1 (by rw [h])
  simp only [push_cast, seval, reduceCtorEq, hb3, decide_eq_false c1, e]
 by_cases c2 : x.bal = y.bal
 case neg =>
  have e : decide (x = y) = false := decide_eq_false fun h => c2 (by rw [h])
  simp only [push_cast, seval, reduceCtorEq, hb3, va, decide_eq_true c1, decide_eq_false c2, e]
 by_cases c3 : x.nonce = y.nonce
 case neg =>
  have e : decide (x = y) = false := decide_eq_false fun h => c3 (by rw [h])
  have e3 : (x.nonce == y.nonce) = false := beq_eq_false_iff_ne.2 c3
  simp only [push_cast, seval, reduceCtorEq, hb3, va, decide_eq_true c1, decide_eq_true c2, e3, e]
 have e3 : (x.nonce == y.nonce) = true := by rw [c3]; exact beq_self_eq_true _
 by_cases c4 : x.code = y.code
 case neg =>
  have e : decide (x = y) = false := decide_eq_false fun h => c4 (by rw [h])
  have e4 : (x.code.toList == y.code.toList) = false := by rw [code_eq, decide_eq_false c4]
  simp only [push_cast, seval, reduceCtorEq, hb3, va, decide_eq_true c1, decide_eq_true c2, e3, e4, e]
 have e4 : (x.code.toList == y.code.toList) = true := by rw [code_eq, decide_eq_true c4]
 have e : decide (x = y) = decide (x.slots = y.slots) := by
  rw [decide_eq_decide]
  exact ⟨fun h => by rw [h], fun h => Ac.ext c1 c2 c3 c4 h⟩
 rw [e]
 simp only [push_cast, seval, reduceCtorEq, hb3, va, decide_eq_true c1, decide_eq_true c2, e3, e4]
 refine useP [_, _] (refSame_R hx hy (by omega) (by omega)) ⟨hb3.2.2, hb2, trivial⟩ ?_
 simp only [push_cast, seval, reduceCtorEq]
def plSm : Plans := fun i => if i = 6 then [] else Tryz.pl15 i
attribute [push_cast] plSm
theorem sameS_ok {M : Hp} {s t : List Ac} {v u : Value} (hv : StR s v M) (hu : StR t u M) (hm : marksOf M = []) (hn : s.length ≤ 2199023255551) (hn2 : t.length ≤ 2199023255551) (h1 : ∀ x ∈ s, x.slots.length ≤ 2199023255551) (h2 : ∀ x ∈ t, x.slots.length ≤ 2199023255551) : CallsV Tryz.prog 15 [v, u] M (Ret0 (.bool (decide (s = t)))) := by
 obtain ⟨L, rfl, hL, hLs⟩ := hv
 obtain ⟨R, rfl, hR, hRs⟩ := hu
 have hlen : (L.map (·.1)).length = L.length := List.length_map _
 have hlen2 : (R.map (·.1)).length = R.length := List.length_map _
 rw [hlen] at hn
 rw [hlen2] at hn2
 obtain ⟨p, k, rfl, hla⟩ := hL.openA
 obtain ⟨q, n, rfl, hra⟩ := hR.openA
 refine callsO gA1_ok Tryz.mix plSm Tryz.func15 rfl Tryz.ntmps15 Tryz.results15 rfl (by first | rfl | assumption) (Nat.le_of_ble_eq_true rfl) (by kernel_rfl) ?_
 by_cases hl : L.length = R.length
 case neg =>
  have e : decide (L.map (·.1) = R.map (·.1)) = false := decide_eq_false fun h => hl (by rw [← hlen, h, hlen2])
  have e1 : (((L.length : Nat) : Int) != ((R.length : Nat) : Int)) = true := by rw [bne_iff_ne]; omega
  simp only [push_cast, seval, reduceCtorEq, e, e1]
 have e1 : (((L.length : Nat) : Int) != ((R.length : Nat) : Int)) = false := by rw [hl]; exact bne_self_eq_false _
 simp only [push_cast, seval, reduceCtorEq, e1]
 refine loopO gA1_ok (pl := plSm) Tryz.mix (X := Nat)
  (fun i => ([(0, .slice p L.length k), (1, .slice q R.length n), (5, .int .i64 i)], M))
  (fun i => i ≤ L.length ∧ (L.take i).map (·.1) = (R.take i).map (·.1)) (fun i => L.length - i) 0 ?_ ?_ (by kernel_rfl) ?_
 · exact ⟨Nat.zero_le _, rfl⟩
 · simp only [push_cast, seval, reduceCtorEq]
 · rintro i ⟨hi, ht⟩
   dsimp only at hi ht ⊢
   rcases Nat.lt_or_ge i L.length with hlt | hge
   · obtain ⟨x, hx⟩ : ∃ x, L[i]? = some x := ⟨L[i], List.getElem?_eq_getElem hlt⟩
     obtain ⟨y, hy⟩ : ∃ y, R[i]? = some y := ⟨R[i]'(by omega), List.getElem?_eq_getElem (by omega)⟩
     rcases hla with rfl | ⟨b, f, d, kd, cs, rfl, he, hat⟩
     · simp at hx
     rcases hra with rfl | ⟨b', f', d', kd', cs', rfl, he', hat'⟩
     · simp at hy
     obtain ⟨-, a1, a2⟩ := hat i x hx
     obtain ⟨-, b1, b2⟩ := hat' i y hy
     have i1 : (i : Int) < (L.length : Int) := by omega
     have i2 : (i : Int) < (R.length : Int) := by omega
     have i3 : i < R.length := by omega
     simp only [push_cast, seval, reduceCtorEq, i1, hlt]
     refine drawO gA1_ok Tryz.mix (Tryz.pl15 6) (by kernel_rfl) ?_
     simp only [push_cast, seval, reduceCtorEq, i1, i2, i3, hlt, he, he', a1, a2, b1, b2]
     have hxm := List.mem_of_getElem? hx
     have hym := List.mem_of_getElem? hy
     refine takeL [] (fun M1 hr1 he1 => sameAc_ok ((hLs x hxm).congr he1.symm) ((hRs y hym).congr he1.symm) hr1.marks (h1 _ (List.mem_map_of_mem hxm)) (h2 _ (List.mem_map_of_mem hym))) trivial ?_
     by_cases hxy : x.1 = y.1
     · simp only [push_cast, seval, reduceCtorEq, decide_eq_true hxy, wrap_i64' (show -9223372036854775808 ≤ (i : Int) + 1 ∧ (i : Int) + 1 ≤ 9223372036854775807 by omega)]
       refine ⟨i + 1, ⟨hlt, ?_⟩, by omega, rfl⟩
       rw [List.take_add_one, List.take_add_one, hx, hy, List.map_append, List.map_append, ht]
       simp [hxy]
     · have e : decide (L.map (·.1) = R.map (·.1)) = false := decide_eq_false fun h => hxy (by
        have h1 : (L.map (·.1))[i]? = some x.1 := by rw [List.getElem?_map, hx]; rfl
        have h2 : (R.map (·.1))[i]? = some y.1 := by rw [List.getElem?_map, hy]; rfl
        rw [h, h2] at h1
        exact (Option.some.inj h1).symm)
       simp only [push_cast, seval, reduceCtorEq, decide_eq_false hxy, e]
   · obtain rfl : i = L.length := by omega
     have e : decide (L.map (·.1) = R.map (·.1)) = true := decide_eq_true (by
      rw [List.take_length, hl, List.take_length] at ht; exact ht)
     simp only [push_cast, seval, reduceCtorEq, Nat.lt_irrefl, Int.lt_irrefl, e]
end Go.Proofs.YtpcjmmdgopihcaaGreatDoor
namespace Go.Ev
end Go.Ev
namespace Go.Proofs.YtpcjmmdgopihcaaGreatDoor
open Go Go.Ev Go.Proofs
end Go.Proofs.YtpcjmmdgopihcaaGreatDoor
namespace Go.Ev
theorem subH_turn {N : Hp} : ∀ {M : Hp}, (∀ e ∈ M, ∀ x ∈ N, ¬ e.blk = x.blk) → subH (N ++ M) (M ++ N)
 | [], _ => by rw [List.append_nil]; exact subH_self N
 | e :: r, h => by
   have h1 := h e (by simp)
   refine ⟨by rw [findE_A h1]; simp [findE], ?_⟩
   rw [remE_A h1]
   simp only [remE, if_true]
   exact subH_turn fun x hx => h x (by simp [hx])
end Go.Ev
namespace Go.Proofs.YtpcjmmdgopihcaaGreatDoor
open Go Go.Ev Go.Proofs
end Go.Proofs.YtpcjmmdgopihcaaGreatDoor
namespace Go.Ev
end Go.Ev
namespace Go.Proofs.YtpcjmmdgopihcaaGreatDoor
open Go Go.Ev Go.Proofs
end Go.Proofs.YtpcjmmdgopihcaaGreatDoor
namespace Go.Ev
end Go.Ev
namespace Go.Proofs.YtpcjmmdgopihcaaGreatDoor
open Go Go.Ev Go.Proofs
noncomputable def gJ0 : Gam := gA1
attribute [push_cast] gJ0
theorem gJ0_ok : GamOk Tryz.prog gJ0 := gA1_ok
noncomputable def gJ1 : Gam := gJ0
attribute [push_cast] gJ1
theorem gJ1_ok : GamOk Tryz.prog gJ1 := gJ0_ok
end Go.Proofs.YtpcjmmdgopihcaaGreatDoor
namespace Go.Proofs.YtpcjmmdgopihcaaGreatDoor
open Go Go.Ev Go.Proofs
end Go.Proofs.YtpcjmmdgopihcaaGreatDoor
namespace Go.Ev
end Go.Ev
namespace Go.Proofs.YtpcjmmdgopihcaaGreatDoor
open Go Go.Ev Go.Proofs
end Go.Proofs.YtpcjmmdgopihcaaGreatDoor
namespace Go.Ev
theorem subH_mid {N X : Hp} : ∀ {M : Hp}, (∀ e ∈ M, ∀ x ∈ N, ¬ e.blk = x.blk) → subH (N ++ (M ++ X)) M
 | [], _ => trivial
 | e :: r, h => by
   have h1 := h e (by simp)
   refine ⟨by rw [findE_A h1]; simp [findE], ?_⟩
   rw [remE_A h1]
   simp only [List.cons_append, remE, if_true]
   exact subH_mid fun x hx => h x (by simp [hx])
theorem subH_gr {N M M' : Hp} (hf : freshN N M') (hg : Gr M M') : subH (N ++ M') M := by
 obtain ⟨-, X, rfl, -, -⟩ := hg
 exact subH_mid fun e he x hx h => freshN_iff.1 hf x hx e (List.mem_append_left _ he) h
end Go.Ev
namespace Go.Proofs.YtpcjmmdgopihcaaGreatDoor
open Go Go.Ev Go.Proofs
end Go.Proofs.YtpcjmmdgopihcaaGreatDoor
namespace Go.Ev
end Go.Ev
namespace Go.Ev
end Go.Ev
namespace Go.Proofs.YtpcjmmdgopihcaaGreatDoor
open Go Go.Ev Go.Proofs
attribute [-push_cast] evAppend_nil
end Go.Proofs.YtpcjmmdgopihcaaGreatDoor
namespace Go.Ev
theorem StR.app {N M : Hp} {s : List Ac} {v : Value} (h : StR s v M) (hf : freshN N M) : StR s v (N ++ M) := by
 obtain ⟨L, h1, h2, h3⟩ := h
 exact ⟨L, h1, h2.app hf, fun x hx => (h3 x hx).app hf⟩
end Go.Ev
namespace Go.Proofs.YtpcjmmdgopihcaaGreatDoor
open Go Go.Ev Go.Proofs
end Go.Proofs.YtpcjmmdgopihcaaGreatDoor
namespace Go.Ev
theorem append_gA {P : Program} {A X N : Hp} {st xt e sz by_ n m : Nat} {cs ys : List Value} {v x : Value} {K : Value → Hp → Prop} (ho : OutG e sz cs n v N) (hA : freshN A N) (hs : slI P st = some (e, sz, by_)) (hx : srcL P (A ++ (N ++ X)) xt x sz = some (ys, m)) (hl : ys.length = m * sz) (h1 : ys.all oneC = true) (hb : (n + m) * by_ ≤ two47)
  (hk : ∀ v' N', OutG e sz (cs ++ ys) (n + m) v' N' → freshN N' (A ++ X) → K v' (N' ++ (A ++ X))) : evAppend P (A ++ (N ++ X)) st xt v x K := by
 have hsz : 0 < sz := (slI_eq hs).2.elim fun _ h => h.elim fun _ h => h.2.2.2.2.2.1
 unfold evAppend
 rw [hs]
 dsimp only
 rw [hx]
 dsimp only
 rcases ho with ⟨rfl, rfl, rfl, rfl⟩ | ⟨b, c, rfl, hc, hcl, rfl⟩
 · refine ⟨⟨rfl, rfl⟩, fun hm => ?_, fun hm => ⟨by simpa using hb, fun b c' hf hc' => ?_⟩⟩
   · subst hm
     have : ys = [] := List.length_eq_zero_iff.1 (by simpa using hl)
     subst this
     exact hk _ [] (.inl ⟨rfl, rfl, rfl, rfl⟩) trivial
   · have := hk (.slice (some ⟨b, 0, none⟩) (0 + m) c') [⟨b, 0, .vec e sz c', [] ++ ys⟩] (.inr ⟨b, c', rfl, by omega, by simpa using hl, rfl⟩) ⟨hf, trivial⟩
     rw [Nat.zero_add] at this
     exact this
 · have hb' : ∀ a ∈ A, ¬ b = a.blk := fun a ha h => by
    have := freshN_iff.1 hA a ha _ (List.mem_singleton.2 rfl)
    exact this h
   have e1 : findE (A ++ ([⟨b, 0, .vec e sz c, cs⟩] ++ X)) b = some ⟨b, 0, .vec e sz c, cs⟩ := by rw [findE_A hb']; simp [findE]
   have e2 : remE (A ++ ([⟨b, 0, .vec e sz c, cs⟩] ++ X)) b = A ++ X := by rw [remE_A hb']; simp [remE]
   dsimp only
   rw [e1, e2]
   dsimp only
   rw [if_pos hcl]
   refine ⟨⟨rfl, rfl, rfl, rfl, hcl⟩, hb, h1, fun b' c' hf hc' => ?_⟩
   exact hk _ [⟨b', 0, .vec e sz c', cs ++ ys⟩] (.inr ⟨b', c', rfl, hc', by rw [List.length_append, hcl, hl, Nat.add_mul], rfl⟩) ⟨hf, trivial⟩
theorem push_gA {P : Program} {α : Type} {c : α → List Value} {e e' s' sz by_ st q : Nat} {ag : Bool} {l : List α} {x : α} {v : Value} (A : Hp) {N X : Hp} {b k : Nat} {K : Value → Hp → Prop} (ho : OutG e sz (l.flatMap c) l.length v N) (hA : freshN (⟨b, 0, .vec e' s' 1, c x⟩ :: A) N) (hs : slI P st = some (e, sz, by_)) (he : elemI P st = some (none, q, ag))
  (hl : (c x).length = sz) (h1 : (c x).all oneC = true) (hb : (l.length + 1) * by_ ≤ two47)
  (hk : ∀ v' N', OutG e sz ((l ++ [x]).flatMap c) (l ++ [x]).length v' N' → freshN N' (⟨b, 0, .vec e' s' 1, c x⟩ :: (A ++ X)) → K v' (N' ++ ⟨b, 0, .vec e' s' 1, c x⟩ :: (A ++ X))) : evAppend P (⟨b, 0, .vec e' s' 1, c x⟩ :: (A ++ (N ++ X))) st st v (.slice (some ⟨b, 0, none⟩) 1 k) K := by
 refine append_gA (A := ⟨b, 0, .vec e' s' 1, c x⟩ :: A) (e := e) (sz := sz) (by_ := by_) (n := l.length) (m := 1) (ys := c x) ho hA hs ?_ (by rw [hl, Nat.one_mul]) h1 hb fun v' N' ho' hf' => hk v' N' ?_ hf'
 · unfold srcL
   rw [he]
   dsimp only
   unfold cellsAt
   simp only [List.cons_append, findE, if_true, Nat.le_refl, Nat.sub_self, subL, Nat.zero_add, List.drop_zero, Nat.one_mul]
   rw [if_pos (Nat.le_of_eq hl.symm), List.take_of_length_le (Nat.le_of_eq hl)]
 · rw [List.flatMap_append, List.length_append, List.flatMap_cons, List.flatMap_nil, List.append_nil]
   exact ho'
end Go.Ev
namespace Go.Proofs.YtpcjmmdgopihcaaGreatDoor
open Go Go.Ev Go.Proofs
end Go.Proofs.YtpcjmmdgopihcaaGreatDoor
namespace Go.Ev
theorem LiR.take {α : Type} {c : α → List Value} {s : Nat} {H : Hp} {l : List α} {p : Option Addr} {n k : Nat} (hs : ∀ x, (c x).length = s) (h : LiR c s H l (.slice p n k)) {m : Nat} (hm : m ≤ l.length) : LiR c s H (l.take m) (.slice p m k) := by
 obtain ⟨p', k', hv, h1⟩ := h
 cases hv
 have hl : (l.take m).length = m := by rw [List.length_take, Nat.min_eq_left hm]
 refine ⟨p, k, by rw [hl], ?_⟩
 rcases h1 with h1 | ⟨b, o, rfl, h1⟩
 · exact .inl (by rw [h1]; simp)
 · refine .inr ⟨b, o, rfl, ?_⟩
   rw [hl]
   have hle : m * s ≤ l.length * s := Nat.mul_le_mul_right s hm
   have htk : (l.take m).flatMap c = (l.flatMap c).take (m * s) := by
    have h0 : l.flatMap c = (l.take m).flatMap c ++ (l.drop m).flatMap c := by rw [← List.flatMap_append, List.take_append_drop]
    have h2 : ((l.take m).flatMap c).length = m * s := by rw [flatMap_len hs, hl]
    rw [h0, List.take_append_of_le_length (Nat.le_of_eq h2.symm), List.take_of_length_le (Nat.le_of_eq h2)]
   rw [htk]
   unfold cellsAt at h1 ⊢
   cases he : findE H b with
   | none => rw [he] at h1; cases h1
   | some e =>
     rw [he] at h1
     dsimp only at h1 ⊢
     by_cases ho : e.off ≤ o
     · rw [if_pos ho] at h1 ⊢
       unfold subL at h1 ⊢
       by_cases h2 : o - e.off + l.length * s ≤ e.cells.length
       · rw [if_pos h2] at h1
         rw [if_pos (by omega)]
         have h1 := Option.some.inj h1
         rw [← h1, List.take_take, Nat.min_eq_left hle]
       · rw [if_neg h2] at h1; cases h1
     · rw [if_neg ho] at h1; cases h1
end Go.Ev
namespace Go.Proofs.YtpcjmmdgopihcaaGreatDoor
open Go Go.Ev Go.Proofs
end Go.Proofs.YtpcjmmdgopihcaaGreatDoor
namespace Go.Proofs.YtpcjmmdgopihcaaGreatDoor
open Go Go.Ev Go.Proofs
end Go.Proofs.YtpcjmmdgopihcaaGreatDoor
namespace Go.Ev
end Go.Ev
namespace Go.Proofs.YtpcjmmdgopihcaaGreatDoor
open Go Go.Ev Go.Proofs
end Go.Proofs.YtpcjmmdgopihcaaGreatDoor
namespace Go.Proofs.YtpcjmmdgopihcaaGreatDoor
open Go Go.Ev Go.Proofs
end Go.Proofs.YtpcjmmdgopihcaaGreatDoor
namespace Go.Proofs.YtpcjmmdgopihcaaGreatDoor
open Go Go.Ev Go.Proofs
end Go.Proofs.YtpcjmmdgopihcaaGreatDoor
namespace Go.Ev
def addrL (k : Nat) : List UInt8 := (if 5 < k then 1 else 0) :: (List.replicate 18 0 ++ [UInt8.ofNat k])
theorem addrL_len (k : Nat) : (addrL k).length = 20 := by simp [addrL]
noncomputable def addrA : Int → Ad := hid fun n => ⟨addrL (pickN n 9), addrL_len _⟩
theorem addrA_eq (n : Int) : addrA n = ⟨addrL (pickN n 9), addrL_len _⟩ := by unfold addrA; rw [hid_eq]
noncomputable def addrG : List Value → Option Value
 | [.int .i64 n] => if i64In n then some (addrA n).v else none
 | _ => none
attribute [push_cast] addrG
theorem addr_cells (k : Nat) (h : k < 9) : byteV (addrL k) = .int .u8 (if 5 < k then 1 else 0) :: (List.replicate 18 (.int .u8 0) ++ [.int .u8 k]) := by
 have : k = 0 ∨ k = 1 ∨ k = 2 ∨ k = 3 ∨ k = 4 ∨ k = 5 ∨ k = 6 ∨ k = 7 ∨ k = 8 := by omega
 rcases this with rfl | rfl | rfl | rfl | rfl | rfl | rfl | rfl | rfl <;> rfl
end Go.Ev
namespace Go.Proofs.YtpcjmmdgopihcaaGreatDoor
open Go Go.Ev Go.Proofs
theorem pick08_ok (c n : Int) (hc : i64In c) (hn : 0 < n) (hn2 : i64In n) : CallsV Tryz.prog 11 [.int .i64 c, .int .i64 n] [] (Ret0 (.int .i64 (pickN c n))) := by
 have hn0 : ¬ n = 0 := by omega
 have h2 := pickN_lt c hn
 unfold i64In at hc hn2
 refine callsO (noG_ok _) Tryz.mix Tryz.pl11 Tryz.func11 rfl Tryz.ntmps11 Tryz.results11 rfl (by first | rfl | assumption) (Nat.le_of_ble_eq_true rfl) (by kernel_rfl) ?_
 rcases Int.lt_or_le c 0 with h | h
 · have e1 : pickN c n = (-(c + 1)).tmod n := by
    have := Int.emod_nonneg (-(c + 1)) hn0
    unfold pickN; rw [if_pos h, Int.tmod_eq_emod_of_nonneg (by omega)]; omega
   have e2 : (0 - (c + 1)) = -(c + 1) := by omega
   simp only [push_cast, seval, reduceCtorEq, h, wrap_i64' (show -9223372036854775808 ≤ c + 1 ∧ c + 1 ≤ 9223372036854775807 by omega), hn0, e2, wrap_i64' (show -9223372036854775808 ≤ -(c + 1) ∧ -(c + 1) ≤ 9223372036854775807 by omega), e1]
 · have h' : ¬ c < 0 := by omega
   have e1 : pickN c n = c.tmod n := by
    have := Int.emod_nonneg c hn0
    unfold pickN; rw [if_neg h', Int.tmod_eq_emod_of_nonneg (by omega)]; omega
   simp only [push_cast, seval, reduceCtorEq, h', hn0, e1]
theorem pick08G_ok (args : List Value) (v : Value) (h : pickG args = some v) : CallsV Tryz.prog 11 args [] (Ret0 v) := by
 unfold pickG at h
 split at h
 · split at h
   · rename_i c n hh; cases h; exact pick08_ok c n hh.1 hh.2.1 hh.2.2
   · cases h
 · cases h
theorem ofWG_ok (args : List Value) (v : Value) (h : ofG args = some v) : CallsV Tryz.prog 29 args [] (Ret0 v) := by
 unfold ofG at h
 split at h
 · split at h
   · rename_i n hh; cases h; exact refOf n hh
   · cases h
 · cases h
noncomputable def gV0 : Gam := (addG 29 ofG (addG 11 pickG gJ1))
attribute [push_cast] gV0
theorem gV0_ok : GamOk Tryz.prog gV0 := (addG_ok ofWG_ok (addG_ok pick08G_ok gJ1_ok))
theorem addr_ok (n : Int) (hn : i64In n) : CallsV Tryz.prog 18 [.int .i64 n] [] (Ret0 (addrA n).v) := by
 have j1 : i64In 9 := by decide
 have hp := pickN_lt n (show (0 : Int) < 9 by decide)
 rw [addrA_eq]
 obtain ⟨k, hk⟩ : ∃ k, k = pickN n 9 := ⟨_, rfl⟩
 have hk9 : k < 9 := by omega
 have hv : (⟨addrL (pickN n 9), addrL_len _⟩ : Ad).v = .agg (.int .u8 (if 5 < k then 1 else 0) :: (List.replicate 18 (.int .u8 0) ++ [.int .u8 k])).toArray := by
  unfold Ad.v Ad.cells
  dsimp only
  rw [← hk, addr_cells k hk9]
 rw [hv]
 refine callsO gV0_ok Tryz.mix Tryz.pl18 Tryz.func18 rfl Tryz.ntmps18 Tryz.results18 rfl (by first | rfl | assumption) (Nat.le_of_ble_eq_true rfl) (by kernel_rfl) ?_
 simp only [push_cast, seval, reduceCtorEq]
 intro b2 b3 hb3
 by_cases h5 : 5 < k
 · have i5 : (5 : Int) < (k : Int) := by omega
   rw [if_pos h5]
   simp only [push_cast, seval, reduceCtorEq, hb3, hn, j1, ← hk, i5, h5, wrap_u8' (n := (k : Int)) (by omega)]
   try rfl
 · have i5 : ¬ (5 : Int) < (k : Int) := by omega
   rw [if_neg h5]
   simp only [push_cast, seval, reduceCtorEq, hb3, hn, j1, ← hk, i5, h5, wrap_u8' (n := (k : Int)) (by omega)]
   try rfl
theorem addrG_ok (args : List Value) (v : Value) (h : addrG args = some v) : CallsV Tryz.prog 18 args [] (Ret0 v) := by
 unfold addrG at h
 split at h
 · split at h
   · rename_i n hh; cases h; exact addr_ok n hh
   · cases h
 · cases h
noncomputable def gV1 : Gam := (addG 18 addrG gV0)
attribute [push_cast] gV1
theorem gV1_ok : GamOk Tryz.prog gV1 := (addG_ok addrG_ok gV0_ok)
end Go.Proofs.YtpcjmmdgopihcaaGreatDoor
namespace Go.Ev
structure R4 where
 a : Int
 b : Int
 c : Int
 d : Int
def R4.cells (r : R4) : List Value := [.int .i64 r.a, .int .i64 r.b, .int .i64 r.c, .int .i64 r.d]
def R4.v (r : R4) : Value := .agg #[.int .i64 r.a, .int .i64 r.b, .int .i64 r.c, .int .i64 r.d]
def R4.In (r : R4) : Prop := i64In r.a ∧ i64In r.b ∧ i64In r.c ∧ i64In r.d
def codeN (n : Nat) : ByteArray := if n = 0 then ⟨#[]⟩ else if n = 1 then ⟨#[0]⟩ else if n = 2 then ⟨#[96, 1]⟩ else ⟨#[99, 111, 100, 101]⟩
noncomputable def chR (r : R4) : Ch :=
 if pickN r.a 4 = 0 then ⟨1, addrA r.b, W.zero, W.ofInt (pickN r.c 1000 : Nat), 0, .empty⟩
 else if pickN r.a 4 = 1 then ⟨2, addrA r.b, W.zero, W.zero, (pickN r.c 4 : Nat), .empty⟩
 else if pickN r.a 4 = 2 then ⟨3, addrA r.b, W.zero, W.zero, 0, codeN (pickN r.c 4)⟩
 else ⟨4, addrA r.b, W.ofInt (pickN r.c 5 : Nat), W.ofInt (pickN r.d 3 : Nat), 0, .empty⟩
end Go.Ev
namespace Go.Proofs.YtpcjmmdgopihcaaGreatDoor
open Go Go.Ev Go.Proofs
theorem change_ok (r : R4) (hr : r.In) : CallsV Tryz.prog 24 [r.v] [] (Ret0 (chR r).v) := by
 obtain ⟨a, b, c, d⟩ := r
 obtain ⟨ia, ib, ic, id⟩ := hr
 dsimp only at ia ib ic id
 have j4 : i64In 4 := by decide
 have j5 : i64In 5 := by decide
 have j3 : i64In 3 := by decide
 have jk : i64In 1000 := by decide
 have pa := pickN_lt a (show (0 : Int) < 4 by decide)
 have pc := pickN_lt c (show (0 : Int) < 4 by decide)
 have pk := pickN_lt c (show (0 : Int) < 1000 by decide)
 have p5 := pickN_lt c (show (0 : Int) < 5 by decide)
 have p3 := pickN_lt d (show (0 : Int) < 3 by decide)
 unfold chR
 dsimp only
 obtain ⟨x, hx⟩ : ∃ x, x = pickN a 4 := ⟨_, rfl⟩
 rw [← hx] at pa ⊢
 show CallsV Tryz.prog _ [.agg #[.int .i64 a, .int .i64 b, .int .i64 c, .int .i64 d]] _ _
 have hx4 : x = 0 ∨ x = 1 ∨ x = 2 ∨ x = 3 := by omega
 refine callsO gV1_ok Tryz.mix Tryz.pl24 Tryz.func24 rfl Tryz.ntmps24 Tryz.results24 rfl (by first | rfl | assumption) (Nat.le_of_ble_eq_true rfl) (by kernel_rfl) ?_
 simp only [push_cast, seval, reduceCtorEq]
 intro b1 b2 hb2
 rcases hx4 with rfl | rfl | rfl | rfl
 · simp only [push_cast, seval, reduceCtorEq, hb2, ia, ib, ic, id, j4, j5, j3, jk, ← hx]
   intro b3 hb3
   have k1 : -9223372036854775808 ≤ ((pickN c 1000 : Nat) : Int) ∧ ((pickN c 1000 : Nat) : Int) ≤ 9223372036854775807 := by omega
   simp only [push_cast, seval, reduceCtorEq, hb2, hb3, ia, ib, ic, id, j4, j5, j3, jk, ← hx, k1.1, k1.2]
 · simp only [push_cast, seval, reduceCtorEq, hb2, ia, ib, ic, id, j4, j5, j3, jk, ← hx]
   intro b3 hb3
   simp only [push_cast, seval, reduceCtorEq, hb2, hb3, ia, ib, ic, id, j4, j5, j3, jk, ← hx]
 · simp only [push_cast, seval, reduceCtorEq, hb2, ia, ib, ic, id, j4, j5, j3, jk, ← hx]
   intro b3 hb3
   simp only [push_cast, seval, reduceCtorEq, hb2, hb3, ia, ib, ic, id, j4, j5, j3, jk, ← hx]
   intro b4 hb4
   obtain ⟨y, hy⟩ : ∃ y, y = pickN c 4 := ⟨_, rfl⟩
   rw [← hy]
   have hy4 : y = 0 ∨ y = 1 ∨ y = 2 ∨ y = 3 := by omega
   rcases hy4 with rfl | rfl | rfl | rfl <;> simp only [push_cast, seval, reduceCtorEq, hb2, hb3, hb4, ia, ib, ic, id, j4, j5, j3, jk, ← hx, ← hy, codeN]
   all_goals trace_state
 · simp only [push_cast, seval, reduceCtorEq, hb2, ia, ib, ic, id, j4, j5, j3, jk, ← hx]
   intro b3 hb3
   have k1 : -9223372036854775808 ≤ ((pickN c 5 : Nat) : Int) ∧ ((pickN c 5 : Nat) : Int) ≤ 9223372036854775807 := by omega
   have k2 : -9223372036854775808 ≤ ((pickN d 3 : Nat) : Int) ∧ ((pickN d 3 : Nat) : Int) ≤ 9223372036854775807 := by omega
   simp only [push_cast, seval, reduceCtorEq, hb2, hb3, ia, ib, ic, id, j4, j5, j3, jk, ← hx, k1.1, k1.2, k2.1, k2.2]
end Go.Proofs.YtpcjmmdgopihcaaGreatDoor
namespace Go.Ev
noncomputable def chG : List Value → Option Value
 | [.agg cs] => match cs.toList with
   | [.int .i64 a, .int .i64 b, .int .i64 c, .int .i64 d] => if i64In a ∧ i64In b ∧ i64In c ∧ i64In d then some (chR ⟨a, b, c, d⟩).v else none
   | _ => none
 | _ => none
attribute [push_cast] chG
theorem R4.len (r : R4) : r.cells.length = 4 := rfl
noncomputable def stepS (s : List Ac) (r : R4) : List Ac := if (doS s (chR r)).2.2 = 0 then (doS s (chR r)).1 else s
noncomputable def stateR (l : List R4) : List Ac := (l.take 30).foldl stepS []
theorem stepS_ri {s : List Ac} (h : RiS s) (r : R4) : RiS (stepS s r) := by
 unfold stepS
 split
 · rename_i hd; exact (doS_iff.1 hd).right
 · exact h
theorem foldS_ri : ∀ (l : List R4) {s : List Ac}, RiS s → RiS (l.foldl stepS s)
 | [], _, h => h
 | r :: l, s, h => by rw [List.foldl_cons]; exact foldS_ri l (stepS_ri h r)
end Go.Ev
namespace Go.Proofs.YtpcjmmdgopihcaaGreatDoor
open Go Go.Ev Go.Proofs
theorem chG_ok (args : List Value) (v : Value) (h : chG args = some v) : CallsV Tryz.prog 24 args [] (Ret0 v) := by
 unfold chG at h
 split at h
 · rename_i cs
   split at h
   · rename_i a b c d hcs
     split at h
     · rename_i hh
       cases h
       have : cs = #[.int .i64 a, .int .i64 b, .int .i64 c, .int .i64 d] := Array.toList_inj.1 hcs
       subst this
       exact change_ok ⟨a, b, c, d⟩ hh
     · cases h
   · cases h
 · cases h
noncomputable def gV2 : Gam := (addG 24 chG gV1)
attribute [push_cast] gV2
theorem gV2_ok : GamOk Tryz.prog gV2 := (addG_ok chG_ok gV1_ok)
theorem state_ok {M : Hp} {l : List R4} {v : Value} (hl : LiR R4.cells 4 M l v) (hin : ∀ r ∈ l, r.In) : CallsR Tryz.prog 10 [v] M (StR (stateR l)) := by
 intro M0 hr he
 have hm := hr.marks
 replace hl := hl.congr he.symm
 obtain ⟨p, k, rfl, hla⟩ := hl.openC R4.len (by decide)
 refine callsO gV2_ok Tryz.mix Tryz.pl10 Tryz.func10 rfl Tryz.ntmps10 Tryz.results10 rfl (by first | rfl | assumption) (Nat.le_of_ble_eq_true rfl) (by kernel_rfl) ?_
 simp only [push_cast, seval, reduceCtorEq]
 refine loopO gV2_ok (pl := Tryz.pl10) Tryz.mix (X := {x : (Nat × Value) × Hp // Gr M0 x.2})
  (fun x => ([(0, .slice p l.length k), (2, .slice none 0 0), (3, x.1.1.2), (4, .int .i64 x.1.1.1)], x.1.2))
  (fun x => x.1.1.1 ≤ l.length ∧ x.1.1.1 ≤ 30 ∧ StR ((l.take x.1.1.1).foldl stepS []) x.1.1.2 x.1.2) (fun x => l.length - x.1.1.1) ⟨((0, .slice none 0 0), M0), Gr.refl hm⟩ ?_ ?_ (by kernel_rfl) ?_
 · exact ⟨Nat.zero_le _, Nat.zero_le _, StR.nil _ _⟩
 · simp only [push_cast, seval, reduceCtorEq]
 · rintro ⟨⟨⟨ix, w⟩, M1⟩, hg1⟩ ⟨hi, h30, hw⟩
   dsimp only at hi h30 hw hg1 ⊢
   have hri : RiS ((l.take ix).foldl stepS []) := foldS_ri _ RiS.nil
   obtain ⟨t, ht⟩ : ∃ t, t = (l.take ix).foldl stepS [] := ⟨_, rfl⟩
   rw [← ht] at hw hri
   obtain ⟨pw, kw, rfl⟩ := hw.slice
   by_cases hc : ix < l.length ∧ ix < 30
   · obtain ⟨hlt, hl30⟩ := hc
     obtain ⟨r, hr'⟩ : ∃ r, l[ix]? = some r := ⟨l[ix], List.getElem?_eq_getElem hlt⟩
     obtain ⟨ia, ib, ic, id⟩ := hin r (List.mem_of_getElem? hr')
     rcases hla with rfl | ⟨b, f, d, kd, cs, rfl, hfe, hat⟩
     · simp at hlt
     obtain ⟨a1, a2⟩ := hat ix r hr'
     rw [show r.cells = [.int .i64 r.a, .int .i64 r.b, .int .i64 r.c, .int .i64 r.d] from rfl] at a2
     have hee := hg1.find hfe
     have i1 : (ix : Int) < (l.length : Int) := by omega
     have i2 : (ix : Int) < 30 := by omega
     have hs1 : (l.take (ix + 1)).foldl stepS [] = stepS t r := by
      rw [List.take_add_one, hr', List.foldl_append, ← ht]; rfl
     have hrl := hri.len
     simp only [push_cast, seval, reduceCtorEq, i1, i2, hlt, hl30, hee, a1, a2, ia, ib, ic, id]
     refine useB [] (refDo_ok hw (by omega) (fun y hy => by have := (mayA_slots (hri.may y hy)).len; omega)) (DoO.rd _ _) hg1.marks trivial fun w' N1 M2 hg2 hf hL hwN hmN hq => ?_
     obtain ⟨w1, rfl, hq⟩ := hq
     obtain ⟨pw2, kw2, rfl⟩ : ∃ p k, w1 = .slice p (doS t (chR r)).1.length k := (hq.r hf).slice
     simp only [push_cast, seval, reduceCtorEq]
     intro b6 hb6
     have sw : ∀ {b}, fresh b (N1 ++ M2) → fresh b (M2 ++ N1) := fun h => fresh_appS (fresh_app_iff.1 h).2 (fresh_app_iff.1 h).1
     have hg3 : Gr M0 (M2 ++ N1) := hg1.trans (hg2.trans ⟨hg2.marks, N1, rfl, hwN, hmN⟩)
     have e3 : -9223372036854775808 ≤ (ix : Int) + 1 ∧ (ix : Int) + 1 ≤ 9223372036854775807 := by omega
     have hsub : subH (⟨b6, 0, .cel 33, (doS t (chR r)).2.1.cells⟩ :: (N1 ++ M2)) (M2 ++ N1) := by
      rw [subH_skip (e := ⟨b6, 0, .cel 33, (doS t (chR r)).2.1.cells⟩) (L := N1 ++ M2) (sw hb6)]
      exact subH_turn fun e he x hx h => freshN_iff.1 hf x hx e he h
     have hmk : marksOf (M2 ++ N1) = marksOf (N1 ++ M2) := by rw [marks_append, marks_append, hmN, hg2.marks]
     split
     · rename_i hd
       have hd : (doS t (chR r)).2.2 = 0 := eq_of_beq hd
       have hs2 : stepS t r = (doS t (chR r)).1 := by unfold stepS; rw [if_pos hd]
       exact ⟨⟨((ix + 1, .slice pw2 (doS t (chR r)).1.length kw2), M2 ++ N1), hg3⟩, ⟨hlt, by dsimp only; omega, by rw [hs1, hs2]; exact StR.rd _ _ _ _ (cellsAt_swap hf) (hq.r hf)⟩, by dsimp only; omega, ⟨rfl, by rw [wrap_i64' e3]; rfl⟩, hsub, hmk⟩
     · rename_i hd
       have hd : ¬ (doS t (chR r)).2.2 = 0 := fun h => by rw [beq_eq_false_iff_ne] at hd; exact hd h
       have hs2 : stepS t r = t := by unfold stepS; rw [if_neg hd]
       exact ⟨⟨((ix + 1, .slice pw t.length kw), M2 ++ N1), hg3⟩, ⟨hlt, by dsimp only; omega, by rw [hs1, hs2]; exact hw.ext (hg2.trans ⟨hg2.marks, N1, rfl, hwN, hmN⟩).ext⟩, by dsimp only; omega, ⟨rfl, by rw [wrap_i64' e3]; rfl⟩, hsub, hmk⟩
   · have hfin : (l.take ix).foldl stepS [] = stateR l := by
      unfold stateR
      rcases Nat.lt_or_ge ix 30 with h | h
      · obtain rfl : ix = l.length := by omega
        rw [List.take_length, List.take_of_length_le (by omega)]
      · obtain rfl : ix = 30 := by omega
        rfl
     rw [← ht] at hfin
     rw [hfin] at hw
     rw [hfin]
     by_cases hlt : ix < l.length
     · have i1 : (ix : Int) < (l.length : Int) := by omega
       have i2 : ¬ (ix : Int) < 30 := by omega
       have i3 : ¬ ix < 30 := by omega
       simp only [push_cast, seval, reduceCtorEq, i1, i2, hlt, i3]
       exact doneK2 [] hg1 (StR.rd _) hw
     · have i1 : ¬ (ix : Int) < (l.length : Int) := by omega
       simp only [push_cast, seval, reduceCtorEq, i1, hlt]
       exact doneK2 [] hg1 (StR.rd _) hw
end Go.Proofs.YtpcjmmdgopihcaaGreatDoor
