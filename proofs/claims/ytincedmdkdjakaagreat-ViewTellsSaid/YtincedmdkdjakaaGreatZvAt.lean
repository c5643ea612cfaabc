/- Texts of this claim, merged by program: Bg Bh Bi Bj Bk Bl Bm. -/
import Derived.Test.YtincedmdkdjakaaGreatZvAs
set_option linter.unusedSimpArgs false
set_option linter.unusedVariables false
namespace Go.Ev
theorem ViR.e4 {x : Vi} {v : Value} {H : Hp} (h : ViR x v H) : ∃ p k p1 k1 p2 k2 p3 k3, v = .agg #[.slice p x.base.length k, .slice p1 x.reads.length k1, .slice p2 x.writes.length k2, .slice p3 x.cells.length k3] := by
  obtain ⟨vb, vr, vw, vc, rfl, h1, h2, h3, h4⟩ := h
  obtain ⟨p, k, rfl⟩ := h1.slice
  obtain ⟨p1, k1, rfl⟩ := LiR.slice h2
  obtain ⟨p2, k2, rfl⟩ := LiR.slice h3
  obtain ⟨p3, k3, rfl⟩ := LiR.slice h4
  exact ⟨p, k, p1, k1, p2, k2, p3, k3, rfl⟩
theorem LiR.singl {α : Type} {c : α → List Value} {s b : Nat} {kd : Kind} {x : α} {k : Nat} {H : Hp} (hf : findE H b = some ⟨b, 0, kd, c x⟩) (hs : (c x).length = s) : LiR c s H [x] (.slice (some ⟨b, 0, none⟩) 1 k) := by
  refine ⟨_, k, rfl, .inr ⟨b, 0, rfl, ?_⟩⟩
  unfold cellsAt
  rw [hf]
  simp only [Nat.sub_zero, subL, List.drop_zero, List.length_singleton, Nat.one_mul, Nat.zero_add, List.flatMap_cons, List.flatMap_nil, List.append_nil]
  rw [if_pos (Nat.zero_le _), if_pos (by omega), List.take_of_length_le (by omega)]
theorem LiR.two25 {x y : Ky} {b : Nat} {kd : Kind} {k : Nat} {H : Hp} (hf : findE H b = some ⟨b, 0, kd, x.cells ++ y.cells⟩) : LiR Ky.cells 25 H [x, y] (.slice (some ⟨b, 0, none⟩) 2 k) := by
  refine ⟨_, k, rfl, .inr ⟨b, 0, rfl, ?_⟩⟩
  have h1 := x.len
  have h2 := y.len
  have h3 : (x.cells ++ y.cells).length = 50 := by rw [List.length_append]; omega
  unfold cellsAt
  rw [hf]
  simp only [Nat.sub_zero, subL, List.drop_zero, List.length_cons, List.length_nil, Nat.zero_add, List.flatMap_cons, List.flatMap_nil, List.append_nil]
  rw [if_pos (Nat.zero_le _), if_pos (by omega), List.take_of_length_le (by omega)]
theorem fit1 {R W' : List Ky} {C : List Ce} (h1 : R.length ≤ 2) (h2 : W'.length ≤ 2) (h3 : C.length ≤ 2) : Vi.Fit ⟨[bA], R, W', C⟩ :=
  ⟨by simp, fun y hy => by rw [List.mem_singleton.1 hy]; decide, by dsimp only; omega, by dsimp only; omega, by dsimp only; omega⟩
end Go.Ev
namespace Go.Proofs.YtincedmdkdjakaaGreat
open Go Go.Ev Go.Proofs
set_option maxRecDepth 100000
set_option maxHeartbeats 4000000
def plAwk11 : Plans := fun i => if i = 7 then [] else if i = 8 then [(0, 9)] else if i = 14 then [(0, 9)] else if i = 16 then [] else Tryz.pl10 i
attribute [push_cast] plAwk11
theorem awk11_ok : CallsV Tryz.prog 10 [] [] (Ret0 (.bool true)) := by
  have k1 : i64In 1 := by decide
  have k7 : i64In 7 := by decide
  have k8 : i64In 8 := by decide
  refine callsO gB1_ok Tryz.mix plAwk11 Tryz.func10 rfl Tryz.ntmps10 Tryz.results10 rfl (by first | rfl | assumption) (Nat.le_of_ble_eq_true rfl) (by kernel_rfl) ?_
  simp only [push_cast, seval, reduceCtorEq]
  intro b1
  intro b2 hb2
  simp only [push_cast, seval, reduceCtorEq, hb2]
  intro b3 hb3
  simp only [push_cast, seval, reduceCtorEq, hb2, hb3]
  intro b4 hb4
  simp only [push_cast, seval, reduceCtorEq, hb2, hb3, hb4]
  intro b5 hb5
  have hM0 : findE [⟨b5, 0, .vec 45 25 1, kA.cells⟩, ⟨b3, 0, .vec 53 27 1, bA.cells (.slice (some ⟨b2, 0, none⟩) 1 1)⟩, ⟨b2, 0, .vec 91 8 1, Sl.cells ⟨w1, w7⟩⟩] b3 = some ⟨b3, 0, .vec 53 27 1, bA.cells (.slice (some ⟨b2, 0, none⟩) 1 1)⟩ := by simp only [push_cast, seval, reduceCtorEq, hb5]
  have hM1 : findE [⟨b5, 0, .vec 45 25 1, kA.cells⟩, ⟨b3, 0, .vec 53 27 1, bA.cells (.slice (some ⟨b2, 0, none⟩) 1 1)⟩, ⟨b2, 0, .vec 91 8 1, Sl.cells ⟨w1, w7⟩⟩] b2 = some ⟨b2, 0, .vec 91 8 1, Sl.cells ⟨w1, w7⟩⟩ := by simp only [push_cast, seval, reduceCtorEq, hb5, hb3]
  have hM2 : findE [⟨b5, 0, .vec 45 25 1, kA.cells⟩, ⟨b3, 0, .vec 53 27 1, bA.cells (.slice (some ⟨b2, 0, none⟩) 1 1)⟩, ⟨b2, 0, .vec 91 8 1, Sl.cells ⟨w1, w7⟩⟩] b5 = some ⟨b5, 0, .vec 45 25 1, kA.cells⟩ := by simp only [push_cast, seval, reduceCtorEq]
  obtain ⟨M0, hM⟩ : ∃ M0 : Hp, M0 = [⟨b5, 0, .vec 45 25 1, kA.cells⟩, ⟨b3, 0, .vec 53 27 1, bA.cells (.slice (some ⟨b2, 0, none⟩) 1 1)⟩, ⟨b2, 0, .vec 91 8 1, Sl.cells ⟨w1, w7⟩⟩] := ⟨_, rfl⟩
  have hL0 : freshN [⟨b4, 0, .cel 45, kA.cells⟩, ⟨b1, 0, .cel 36, at1.cells⟩] M0 := by
    rw [hM]
    exact ⟨⟨hb5.2.1, hb5.1, hb4.1, hb4.2.1, hb4.2.2.1, hb4.2.2.2.1, trivial⟩, ⟨hb5.2.2.2.2.2.2.2, hb5.2.2.2.2.2.2.1, hb3.2.2.2, hb3.2.2.1, hb2.2, hb2.1, trivial⟩, trivial⟩
  refine CallsV.pre (H' := [⟨b4, 0, .cel 45, kA.cells⟩, ⟨b1, 0, .cel 36, at1.cells⟩] ++ M0) (by rw [hM]; exact (List.Perm.swap _ _ _).trans (.cons _ (List.perm_middle (l₁ := [_, _, _]) (l₂ := [])))) (by rw [hM]; simp [marksOf]) ?_
  rw [← hM] at hM0 hM1 hM2
  have hm0 : marksOf M0 = [] := by rw [hM]; simp [marksOf]
  have hAs : StR [bA] (.slice (some ⟨b3, 0, none⟩) 1 1) M0 := ⟨[(bA, .slice (some ⟨b2, 0, none⟩) 1 1)], rfl, LiR.singl hM0 (acC_len _), fun x hx => by rw [List.mem_singleton.1 hx]; exact LiR.singl hM1 rfl⟩
  have hKs : KsR [kA] (.slice (some ⟨b5, 0, none⟩) 1 1) M0 := LiR.singl hM2 kA.len
  clear hM hM0 hM1 hM2
  refine useL [_, _] (M := M0) (vopen_ok hAs ⟨_, _, rfl, hKs, LiR.nil _ _⟩ (fit1 (by simp) (by simp) (by simp))) (VeR.rd _) hm0 hL0 fun w M1 hg1 hL1 hq => ?_
  rw [openR] at hq
  obtain ⟨uu, rfl, hvR⟩ := hq
  have hvR : ViR vR uu M1 := hvR
  obtain ⟨p, k, p1, k1', p2, k2, p3, k3, rfl⟩ := hvR.e4
  simp only [push_cast, seval, reduceCtorEq]
  intro b6 hb6
  simp only [push_cast, seval, reduceCtorEq, hb6, hb4]
  have fitR : vR.Fit := fit1 (by simp) (by simp) (by simp)
  refine takeR [_, _, _] (v := .tuple #[w7.v, .int .i64 0]) (by have := vslot_R (a := at1) (q := w1) hvR fitR; rw [slotR] at this; exact this) ⟨hb6.2.2.2.2, hL1⟩ ?_
  simp only [push_cast, seval, reduceCtorEq, hb6, hb4]
  intro b7 hb7
  simp only [push_cast, seval, reduceCtorEq, hb7, hb6, hb4]
  have hLX : freshN [⟨b7, 0, .cel 39, w7.cells⟩, ⟨b6, 0, .cel 33, [.slice p vR.base.length k, .slice p1 vR.reads.length k1', .slice p2 vR.writes.length k2, .slice p3 vR.cells.length k3]⟩, ⟨b4, 0, .cel 45, kA.cells⟩, ⟨b1, 0, .cel 36, at1.cells⟩] M1 := ⟨hb7.2.2.2.2.2.2, hb6.2.2.2.2, hL1⟩
  have fB6 : findE (⟨b7, 0, .cel 39, w7.cells⟩ :: ⟨b6, 0, .cel 33, [.slice p vR.base.length k, .slice p1 vR.reads.length k1', .slice p2 vR.writes.length k2, .slice p3 vR.cells.length k3]⟩ :: ⟨b4, 0, .cel 45, kA.cells⟩ :: ⟨b1, 0, .cel 36, at1.cells⟩ :: M1) b6 = some ⟨b6, 0, .cel 33, [.slice p vR.base.length k, .slice p1 vR.reads.length k1', .slice p2 vR.writes.length k2, .slice p3 vR.cells.length k3]⟩ := by simp only [push_cast, seval, reduceCtorEq, hb7]
  have fB1 : findE (⟨b7, 0, .cel 39, w7.cells⟩ :: ⟨b6, 0, .cel 33, [.slice p vR.base.length k, .slice p1 vR.reads.length k1', .slice p2 vR.writes.length k2, .slice p3 vR.cells.length k3]⟩ :: ⟨b4, 0, .cel 45, kA.cells⟩ :: ⟨b1, 0, .cel 36, at1.cells⟩ :: M1) b1 = some ⟨b1, 0, .cel 36, at1.cells⟩ := by simp only [push_cast, seval, reduceCtorEq, hb7, hb6, hb4]
  refine drawS gB1_ok Tryz.mix [(1, .pointer (some ⟨b1, 0, none⟩)), (2, .func (.func 41) #[] #[]), (3, .slice (some ⟨b3, 0, none⟩) 1 1), (4, .pointer (some ⟨b4, 0, none⟩)), (5, .pointer (some ⟨b6, 0, none⟩)), (6, .int .i64 0), (7, .pointer (some ⟨b7, 0, none⟩)), (8, .int .i64 0)]
      (fun i val => match i with
        | 0 => val 0 = .agg #[.slice p vR.base.length k, .slice p1 vR.reads.length k1', .slice p2 vR.writes.length k2, .slice p3 vR.cells.length k3]
        | 1 => val 1 = at1.v
        | 2 => val 2 = .func (.func 41) #[] #[]
        | 3 => val 3 = (W.ofInt 1).v
        | 4 => val 4 = .func (.func 41) #[] #[]
        | 5 => val 5 = (W.ofInt 8).v
        | 6 => ∃ q l q1 l1 q2 l2 q3 l3, val 6 = .tuple #[.agg #[.slice q vR.base.length l, .slice q1 vR.reads.length l1, .slice q2 vR.writes.length l2, .slice q3 vR.cells.length l3], .int .i64 30]
        | 7 => val 7 = val 6 ∧ ∃ q l q1 l1 q2 l2 q3 l3, val 6 = .tuple #[.agg #[.slice q vR.base.length l, .slice q1 vR.reads.length l1, .slice q2 vR.writes.length l2, .slice q3 vR.cells.length l3], .int .i64 30]
        | 8 => ∃ q l q1 l1 q2 l2 q3 l3, val 8 = .agg #[.slice q vR.base.length l, .slice q1 vR.reads.length l1, .slice q2 vR.writes.length l2, .slice q3 vR.cells.length l3] ∧ val 7 = .tuple #[val 8, .int .i64 30]
        | 9 => val 9 = .int .i64 30
        | 10 => ∃ b, val 10 = .pointer (some ⟨b, 0, none⟩)
        | 12 => val 12 = .int .i64 30
        | _ => True)
      (fun i val N => match i with
        | 6 => allWr N ∧ marksOf N = [] ∧ VeR (vR, 30) (val 6) (N ++ M1)
        | 7 => N = []
        | 8 => N = []
        | 10 => ∃ b, val 10 = .pointer (some ⟨b, 0, none⟩) ∧ N = [⟨b, 0, .cel 33, [.slice none 0 0, .slice none 0 0, .slice none 0 0, .slice none 0 0]⟩]
        | 11 => ∃ b q l q1 l1 q2 l2 q3 l3, val 10 = .pointer (some ⟨b, 0, none⟩) ∧ val 8 = .agg #[.slice q vR.base.length l, .slice q1 vR.reads.length l1, .slice q2 vR.writes.length l2, .slice q3 vR.cells.length l3] ∧ N = [⟨b, 0, .cel 33, [.slice q vR.base.length l, .slice q1 vR.reads.length l1, .slice q2 vR.writes.length l2, .slice q3 vR.cells.length l3]⟩]
        | _ => N = []) (fun i => if i = 11 then [10] else []) [6, 11] (by kernel_rfl) (by kernel_rfl) (by kernel_rfl) ?_ (by rfl) (by decide) (by kernel_rfl) ?_ ?_ ?_ ?_ ?_
  · simp only [push_cast, seval, reduceCtorEq, subT]
  · intro i hi hiF
    replace hi : i < 13 := hi
    obtain rfl | rfl | rfl | rfl | rfl | rfl | rfl | rfl | rfl | rfl | rfl | rfl | rfl : i = 0 ∨ i = 1 ∨ i = 2 ∨ i = 3 ∨ i = 4 ∨ i = 5 ∨ i = 6 ∨ i = 7 ∨ i = 8 ∨ i = 9 ∨ i = 10 ∨ i = 11 ∨ i = 12 := by omega
    all_goals first
      | exact .inl fun _ _ h => h
      | exact absurd (by decide) hiF
      | exact .inr (by kernel_rfl)
  · intro i o ho val val' h1 h2 hV
    have hi := (Array.getElem?_eq_some_iff.1 ho).1
    replace hi : i < 13 := hi
    obtain rfl | rfl | rfl | rfl | rfl | rfl | rfl | rfl | rfl | rfl | rfl | rfl | rfl : i = 0 ∨ i = 1 ∨ i = 2 ∨ i = 3 ∨ i = 4 ∨ i = 5 ∨ i = 6 ∨ i = 7 ∨ i = 8 ∨ i = 9 ∨ i = 10 ∨ i = 11 ∨ i = 12 := by omega
    · first
        | exact trivial
        | exact hV
        | exact h1.trans hV
        | (rw [h1]; exact hV)
    · first
        | exact trivial
        | exact hV
        | exact h1.trans hV
        | (rw [h1]; exact hV)
    · first
        | exact trivial
        | exact hV
        | exact h1.trans hV
        | (rw [h1]; exact hV)
    · first
        | exact trivial
        | exact hV
        | exact h1.trans hV
        | (rw [h1]; exact hV)
    · first
        | exact trivial
        | exact hV
        | exact h1.trans hV
        | (rw [h1]; exact hV)
    · first
        | exact trivial
        | exact hV
        | exact h1.trans hV
        | (rw [h1]; exact hV)
    · first
        | exact trivial
        | exact hV
        | exact h1.trans hV
        | (rw [h1]; exact hV)
    · simp only [List.getElem?_toArray, List.getElem?_cons_zero, List.getElem?_cons_succ, Option.some.injEq] at ho; subst ho
      have h5 := h2 6 (by kernel_rfl)
      obtain ⟨a1, a2⟩ := hV
      exact ⟨by rw [h1, h5]; exact a1, by rw [h5]; exact a2⟩
    · simp only [List.getElem?_toArray, List.getElem?_cons_zero, List.getElem?_cons_succ, Option.some.injEq] at ho; subst ho
      have h6 := h2 7 (by kernel_rfl)
      obtain ⟨q, l, q1, l1, q2, l2, q3, l3, a1, a2⟩ := hV
      exact ⟨q, l, q1, l1, q2, l2, q3, l3, by rw [h1]; exact a1, by rw [h6, h1]; exact a2⟩
    · first
        | exact trivial
        | exact hV
        | exact h1.trans hV
        | (rw [h1]; exact hV)
    · first
        | exact trivial
        | exact hV
        | exact h1.trans hV
        | (rw [h1]; exact hV)
    · first
        | exact trivial
        | exact hV
        | exact h1.trans hV
        | (rw [h1]; exact hV)
    · first
        | exact trivial
        | exact hV
        | exact h1.trans hV
        | (rw [h1]; exact hV)
  · intro i o ho val val' N h1 h2 hQ
    have hi := (Array.getElem?_eq_some_iff.1 ho).1
    replace hi : i < 13 := hi
    obtain rfl | rfl | rfl | rfl | rfl | rfl | rfl | rfl | rfl | rfl | rfl | rfl | rfl : i = 0 ∨ i = 1 ∨ i = 2 ∨ i = 3 ∨ i = 4 ∨ i = 5 ∨ i = 6 ∨ i = 7 ∨ i = 8 ∨ i = 9 ∨ i = 10 ∨ i = 11 ∨ i = 12 := by omega
    · first
        | exact trivial
        | exact hQ
        | exact h1.trans hQ
        | (rw [h1]; exact hQ)
    · first
        | exact trivial
        | exact hQ
        | exact h1.trans hQ
        | (rw [h1]; exact hQ)
    · first
        | exact trivial
        | exact hQ
        | exact h1.trans hQ
        | (rw [h1]; exact hQ)
    · first
        | exact trivial
        | exact hQ
        | exact h1.trans hQ
        | (rw [h1]; exact hQ)
    · first
        | exact trivial
        | exact hQ
        | exact h1.trans hQ
        | (rw [h1]; exact hQ)
    · first
        | exact trivial
        | exact hQ
        | exact h1.trans hQ
        | (rw [h1]; exact hQ)
    · first
        | exact trivial
        | exact hQ
        | exact h1.trans hQ
        | (rw [h1]; exact hQ)
    · first
        | exact trivial
        | exact hQ
        | exact h1.trans hQ
        | (rw [h1]; exact hQ)
    · first
        | exact trivial
        | exact hQ
        | exact h1.trans hQ
        | (rw [h1]; exact hQ)
    · first
        | exact trivial
        | exact hQ
        | exact h1.trans hQ
        | (rw [h1]; exact hQ)
    · first
        | exact trivial
        | exact hQ
        | exact h1.trans hQ
        | (rw [h1]; exact hQ)
    · simp only [List.getElem?_toArray, List.getElem?_cons_zero, List.getElem?_cons_succ, Option.some.injEq] at ho; subst ho
      have h10 := h2 10 (by kernel_rfl)
      have h7 := h2 8 (by kernel_rfl)
      obtain ⟨b, q, l, q1, l1, q2, l2, q3, l3, a1, a2, a3⟩ := hQ
      exact ⟨b, q, l, q1, l1, q2, l2, q3, l3, by rw [h10]; exact a1, by rw [h7]; exact a2, a3⟩
    · first
        | exact trivial
        | exact hQ
        | exact h1.trans hQ
        | (rw [h1]; exact hQ)
  · intro i o ho T' Y val mem hT hdep hus hfr hY hmY hapY
    have hi := (Array.getElem?_eq_some_iff.1 ho).1
    replace hi : i < 13 := hi
    have y6 := hY _ _ fB6
    have y1 := hY _ _ fB1
    have hM1Y : ∀ b e, findE M1 b = some e → findE Y b = some e := fun b e h => hY b e (find_behind hLX b e h)
    have t1 : getT T' 1 = some (.pointer (some ⟨b1, 0, none⟩)) := hT.1
    have t2 : getT T' 2 = some (.func (.func 41) #[] #[]) := hT.2.1
    have t5 : getT T' 5 = some (.pointer (some ⟨b6, 0, none⟩)) := hT.2.2.2.2.1
    obtain rfl | rfl | rfl | rfl | rfl | rfl | rfl | rfl | rfl | rfl | rfl | rfl | rfl : i = 0 ∨ i = 1 ∨ i = 2 ∨ i = 3 ∨ i = 4 ∨ i = 5 ∨ i = 6 ∨ i = 7 ∨ i = 8 ∨ i = 9 ∨ i = 10 ∨ i = 11 ∨ i = 12 := by omega
    · simp only [List.getElem?_toArray, List.getElem?_cons_zero, List.getElem?_cons_succ, Option.some.injEq] at ho; subst ho
      simp only [push_cast, seval, reduceCtorEq, List.flatMap_nil, List.flatMap_cons, List.append_nil, List.nil_append, t5, y6]
      exact ⟨[], rfl, trivial, rfl, upd_self _ _ _, rfl⟩
    · simp only [List.getElem?_toArray, List.getElem?_cons_zero, List.getElem?_cons_succ, Option.some.injEq] at ho; subst ho
      simp only [push_cast, seval, reduceCtorEq, List.flatMap_nil, List.flatMap_cons, List.append_nil, List.nil_append, t1, y1, Ad.agg, Ad.len]
      exact ⟨[], rfl, trivial, rfl, upd_self _ _ _, rfl⟩
    · simp only [List.getElem?_toArray, List.getElem?_cons_zero, List.getElem?_cons_succ, Option.some.injEq] at ho; subst ho
      simp only [push_cast, seval, reduceCtorEq, List.flatMap_nil, List.flatMap_cons, List.append_nil, List.nil_append, t2]
      exact ⟨[], rfl, trivial, rfl, upd_self _ _ _, rfl⟩
    · simp only [List.getElem?_toArray, List.getElem?_cons_zero, List.getElem?_cons_succ, Option.some.injEq] at ho; subst ho
      obtain ⟨v2, g2⟩ := hdep 2 (by kernel_rfl)
      replace g2 := g2 55 rfl
      rw [show val 2 = _ from v2] at g2
      simp only [push_cast, seval, reduceCtorEq, List.flatMap_nil, List.flatMap_cons, List.append_nil, List.nil_append, g2, k1]
      exact ⟨[], rfl, trivial, rfl, upd_self _ _ _, rfl⟩
    · simp only [List.getElem?_toArray, List.getElem?_cons_zero, List.getElem?_cons_succ, Option.some.injEq] at ho; subst ho
      simp only [push_cast, seval, reduceCtorEq, List.flatMap_nil, List.flatMap_cons, List.append_nil, List.nil_append, t2]
      exact ⟨[], rfl, trivial, rfl, upd_self _ _ _, rfl⟩
    · simp only [List.getElem?_toArray, List.getElem?_cons_zero, List.getElem?_cons_succ, Option.some.injEq] at ho; subst ho
      obtain ⟨v4, g4⟩ := hdep 4 (by kernel_rfl)
      replace g4 := g4 57 rfl
      rw [show val 4 = _ from v4] at g4
      simp only [push_cast, seval, reduceCtorEq, List.flatMap_nil, List.flatMap_cons, List.append_nil, List.nil_append, g4, k8]
      exact ⟨[], rfl, trivial, rfl, upd_self _ _ _, rfl⟩
    · simp only [List.getElem?_toArray, List.getElem?_cons_zero, List.getElem?_cons_succ, Option.some.injEq] at ho; subst ho
      obtain ⟨v0, g0⟩ := hdep 0 (by kernel_rfl)
      replace g0 := g0 53 rfl
      rw [show val 0 = _ from v0] at g0
      obtain ⟨v1, g1⟩ := hdep 1 (by kernel_rfl)
      replace g1 := g1 54 rfl
      rw [show val 1 = _ from v1] at g1
      obtain ⟨v3, g3⟩ := hdep 3 (by kernel_rfl)
      replace g3 := g3 56 rfl
      rw [show val 3 = _ from v3] at g3
      obtain ⟨v5, g5⟩ := hdep 5 (by kernel_rfl)
      replace g5 := g5 58 rfl
      rw [show val 5 = _ from v5] at g5
      simp only [push_cast, seval, reduceCtorEq, List.flatMap_nil, List.flatMap_cons, List.append_nil, List.nil_append, g0, g1, g3, g5]
      refine callS (M := M1) (by have := vsetslot_R (a := at1) (q := w1) (w := w8) hvR fitR; rw [show putV vR (Ce.sv ⟨at1, true, w1⟩ w8) = _ from putR1] at this; exact this) (VeR.rd _) hM1Y fun w N hw hm2 hf hq => ⟨N, rfl, hw, hm2, ?_, ?_⟩
      · obtain ⟨u, rfl, hu⟩ := hq
        have hu : ViR vR u _ := hu
        obtain ⟨q, l, q1, l1, q2, l2, q3, l3, rfl⟩ := hu.e4
        exact ⟨q, l, q1, l1, q2, l2, q3, l3, by rw [upd_self]⟩
      · rw [upd_self]
        exact ⟨hw, hm2, hq⟩
    · simp only [List.getElem?_toArray, List.getElem?_cons_zero, List.getElem?_cons_succ, Option.some.injEq] at ho; subst ho
      obtain ⟨v6, g6⟩ := hdep 6 (by kernel_rfl)
      replace g6 := g6 59 rfl
      simp only [push_cast, seval, reduceCtorEq, List.flatMap_nil, List.flatMap_cons, List.append_nil, List.nil_append, g6]
      refine ⟨[], rfl, trivial, rfl, ⟨?_, ?_⟩, rfl⟩
      · simp [upd]
      · simpa [upd] using v6
    · simp only [List.getElem?_toArray, List.getElem?_cons_zero, List.getElem?_cons_succ, Option.some.injEq] at ho; subst ho
      obtain ⟨v7, g7⟩ := hdep 7 (by kernel_rfl)
      replace g7 := g7 52 rfl
      obtain ⟨v7, q, l, q1, l1, q2, l2, q3, l3, v6⟩ := v7
      have v7 : val 7 = _ := v7
      rw [v7, v6] at g7
      simp only [push_cast, seval, reduceCtorEq, List.flatMap_nil, List.flatMap_cons, List.append_nil, List.nil_append, g7]
      refine ⟨[], rfl, trivial, rfl, ⟨q, l, q1, l1, q2, l2, q3, l3, ?_, ?_⟩, rfl⟩
      · simp [upd]
      · simp [upd, v7, v6]
    · simp only [List.getElem?_toArray, List.getElem?_cons_zero, List.getElem?_cons_succ, Option.some.injEq] at ho; subst ho
      obtain ⟨v7, g7⟩ := hdep 7 (by kernel_rfl)
      replace g7 := g7 52 rfl
      obtain ⟨v7, q, l, q1, l1, q2, l2, q3, l3, v6⟩ := v7
      have v7 : val 7 = _ := v7
      rw [v7, v6] at g7
      simp only [push_cast, seval, reduceCtorEq, List.flatMap_nil, List.flatMap_cons, List.append_nil, List.nil_append, g7]
      exact ⟨[], rfl, trivial, rfl, upd_self _ _ _, rfl⟩
    · simp only [List.getElem?_toArray, List.getElem?_cons_zero, List.getElem?_cons_succ, Option.some.injEq] at ho; subst ho
      simp only [push_cast, seval, reduceCtorEq, List.flatMap_nil, List.flatMap_cons, List.append_nil, List.nil_append]
      intro b hf
      exact ⟨[_], rfl, ⟨trivial, trivial⟩, rfl, ⟨b, upd_self _ _ _⟩, b, upd_self _ _ _, rfl⟩
    · simp only [List.getElem?_toArray, List.getElem?_cons_zero, List.getElem?_cons_succ, Option.some.injEq] at ho; subst ho
      obtain ⟨v8, g8⟩ := hdep 8 (by kernel_rfl)
      replace g8 := g8 60 rfl
      obtain ⟨v10, g10⟩ := hdep 10 (by kernel_rfl)
      replace g10 := g10 9 rfl
      obtain ⟨q, l, q1, l1, q2, l2, q3, l3, v8, -⟩ := v8
      have v8 : val 8 = _ := v8
      rw [v8] at g8
      obtain ⟨b10, v10, hN⟩ := hus 10 (List.mem_singleton.2 rfl)
      have v10 : val 10 = _ := v10
      rw [v10] at g10
      simp only [push_cast, seval, reduceCtorEq, List.flatMap_nil, List.flatMap_cons, List.append_nil, List.nil_append, g8, g10, hN, List.cons_append]
      refine ⟨[_], rfl, ⟨trivial, trivial⟩, rfl, b10, q, l, q1, l1, q2, l2, q3, l3, ?_, ?_, rfl⟩
      · simp [upd, v10]
      · simp [upd, v8]
    · simp only [List.getElem?_toArray, List.getElem?_cons_zero, List.getElem?_cons_succ, Option.some.injEq] at ho; subst ho
      obtain ⟨v9, g9⟩ := hdep 9 (by kernel_rfl)
      replace g9 := g9 61 rfl
      rw [show val 9 = _ from v9] at g9
      simp only [push_cast, seval, reduceCtorEq, List.flatMap_nil, List.flatMap_cons, List.append_nil, List.nil_append, g9]
      exact ⟨[], rfl, trivial, rfl, upd_self _ _ _, rfl⟩
  · intro val mem hV hQ hap hwr
    obtain ⟨w6, m6, -⟩ := hQ 6 (by decide)
    obtain ⟨b9, q, l, q1, l1, q2, l2, q3, l3, v10, v8, hN11⟩ := hQ 11 (by decide)
    have v10 : val 10 = _ := v10
    have v8 : val 8 = _ := v8
    have v12 : val 12 = .int .i64 30 := hV 12 (by decide)
    have hMM : List.flatMap mem [6, 11] ++ (⟨b7, 0, .cel 39, w7.cells⟩ :: ⟨b6, 0, .cel 33, [.slice p vR.base.length k, .slice p1 vR.reads.length k1', .slice p2 vR.writes.length k2, .slice p3 vR.cells.length k3]⟩ :: ⟨b4, 0, .cel 45, kA.cells⟩ :: ⟨b1, 0, .cel 36, at1.cells⟩ :: M1) = mem 6 ++ (⟨b9, 0, .cel 33, [.slice q vR.base.length l, .slice q1 vR.reads.length l1, .slice q2 vR.writes.length l2, .slice q3 vR.cells.length l3]⟩ :: ⟨b7, 0, .cel 39, w7.cells⟩ :: ⟨b6, 0, .cel 33, [.slice p vR.base.length k, .slice p1 vR.reads.length k1', .slice p2 vR.writes.length k2, .slice p3 vR.cells.length k3]⟩ :: ⟨b4, 0, .cel 45, kA.cells⟩ :: ⟨b1, 0, .cel 36, at1.cells⟩ :: M1) := by
      simp only [List.flatMap_cons, List.flatMap_nil, List.append_nil, hN11, List.append_assoc, List.cons_append, List.nil_append]
    rw [hMM] at hap ⊢
    have a6 := freshN_apart hap w6
    have hap' := (List.pairwise_append.1 hap).2.1
    have a9 := freshN_apart (A := [⟨b9, 0, .cel 33, [.slice q vR.base.length l, .slice q1 vR.reads.length l1, .slice q2 vR.writes.length l2, .slice q3 vR.cells.length l3]⟩]) hap' ⟨trivial, trivial⟩
    have q6f := freshN_sym a6
    simp only [push_cast, seval, reduceCtorEq, v8, v10, v12]
    refine WpV.perm (H' := ⟨b9, 0, .cel 33, [.slice q vR.base.length l, .slice q1 vR.reads.length l1, .slice q2 vR.writes.length l2, .slice q3 vR.cells.length l3]⟩ :: ⟨b7, 0, .cel 39, w7.cells⟩ :: ⟨b6, 0, .cel 33, [.slice p vR.base.length k, .slice p1 vR.reads.length k1', .slice p2 vR.writes.length k2, .slice p3 vR.cells.length k3]⟩ :: ⟨b4, 0, .cel 45, kA.cells⟩ :: ⟨b1, 0, .cel 36, at1.cells⟩ :: (M1 ++ mem 6)) ?_ ?_ ?_
    · exact List.perm_append_comm
    · simp [marks_append, marksOf, m6]
    refine WpV.slots [(1, .pointer (some ⟨b1, 0, none⟩)), (2, .func (.func 41) #[] #[]), (3, .slice (some ⟨b3, 0, none⟩) 1 1), (4, .pointer (some ⟨b4, 0, none⟩)), (5, .pointer (some ⟨b6, 0, none⟩)), (6, .int .i64 0), (7, .pointer (some ⟨b7, 0, none⟩)), (8, .int .i64 0), (10, .int .i64 30)] (by simp only [push_cast, seval, reduceCtorEq]) ?_
    have hg2 : Gr M1 (M1 ++ mem 6) := ⟨hg1.marks, mem 6, rfl, w6, m6⟩
    have hL2 : freshN [⟨b9, 0, .cel 33, [.slice q vR.base.length l, .slice q1 vR.reads.length l1, .slice q2 vR.writes.length l2, .slice q3 vR.cells.length l3]⟩, ⟨b7, 0, .cel 39, w7.cells⟩, ⟨b6, 0, .cel 33, [.slice p vR.base.length k, .slice p1 vR.reads.length k1', .slice p2 vR.writes.length k2, .slice p3 vR.cells.length k3]⟩, ⟨b4, 0, .cel 45, kA.cells⟩, ⟨b1, 0, .cel 36, at1.cells⟩] (M1 ++ mem 6) := ⟨fresh_app_iff.2 ⟨a9.1.2.2.2.2.2.2.2.2, q6f.1⟩, freshN_comb hLX ⟨q6f.2.1, q6f.2.2.1, q6f.2.2.2.1, q6f.2.2.2.2.1, trivial⟩⟩
    have hb9 : ¬b9 = b7 ∧ ¬b7 = b9 ∧ ¬b9 = b6 ∧ ¬b6 = b9 ∧ ¬b9 = b4 ∧ ¬b4 = b9 ∧ ¬b9 = b1 ∧ ¬b1 = b9 ∧ fresh b9 M1 := by have := a9.1; simp only [push_cast, seval, reduceCtorEq] at this; exact this
    generalize M1 ++ mem 6 = M2 at hg2 hL2 ⊢
    refine regO gB1_ok ?_
    simp only [push_cast, seval, reduceCtorEq, hb9, hb7, hb6, hb4]
    have hv2 := hvR.ext hg2.ext
    refine useP [_, _, _, _, _] (v := .tuple #[.agg (Ac.cells ⟨Ad.zero, W.zero, 0, .empty, []⟩ (.slice none 0 0)).toArray, .int .i64 30]) (by have := vaccount_R (a := at1) hv2 fitR; rw [accR1] at this; exact this) hL2 ?_
    simp only [push_cast, seval, reduceCtorEq, hb9, hb7, hb6, hb4]
    intro b11 hb11
    simp only [push_cast, seval, reduceCtorEq, hb11, hb9, hb7, hb6, hb4]
    intro bk hbk
    obtain ⟨d1, d2, d3, d4, d5, d6, d7, d8, d9, d10, d11, d12, dM⟩ := id hbk
    refine CallsV.pre (H' := [_, _, _, _, _, _] ++ (⟨bk, 0, .vec 45 25 1, kA.cells⟩ :: M2)) (List.perm_middle (l₁ := [_, _, _, _, _, _]) (l₂ := M2)).symm (by simp [marksOf]) ?_
    have hA2 := (hAs.ext hg1.ext).ext hg2.ext
    have hA3 : StR [bA] _ (⟨bk, 0, .vec 45 25 1, kA.cells⟩ :: M2) := hA2.find (find_behind (L := [_]) (M := M2) ⟨dM, trivial⟩)
    have hK3 : KsR [kA] (.slice (some ⟨bk, 0, none⟩) 1 1) (⟨bk, 0, .vec 45 25 1, kA.cells⟩ :: M2) := LiR.singl (kd := .vec 45 25 1) (by simp [findE]) kA.len
    obtain ⟨f9, f7, f6, f4, f1, -⟩ := id hL2
    refine useL [_, _, _, _, _, _] (M := ⟨bk, 0, .vec 45 25 1, kA.cells⟩ :: M2) (vopen_ok hA3 ⟨_, _, rfl, LiR.nil _ _, hK3⟩ (fit1 (by simp) (by simp) (by simp))) (VeR.rd _) (by simpa [marksOf] using hg2.marks) ⟨⟨d2, d1, hb11.2.2.2.2.2.2.2.2.2.2⟩, ⟨d4, d3, f9⟩, ⟨d6, d5, f7⟩, ⟨d8, d7, f6⟩, ⟨d10, d9, f4⟩, ⟨d12, d11, f1⟩, trivial⟩ fun w M3 hg3 hL3 hq => ?_
    have hA3 := hA3.ext hg3.ext
    rw [openW] at hq
    obtain ⟨uu, rfl, hvW⟩ := hq
    have hvW : ViR vW uu M3 := hvW
    obtain ⟨s0, m0, s1, m1, s2, m2, s3, m3, rfl⟩ := hvW.e4
    simp only [push_cast, seval, reduceCtorEq, hb11, hb9, hb7, hb6, hb4]
    intro b13 hb13
    simp only [push_cast, seval, reduceCtorEq, hb13, hb11, hb9, hb7, hb6, hb4, k1, k8]
    have fitW : vW.Fit := fit1 (by simp) (by simp) (by simp)
    have fitX : vX.Fit := fit1 (by simp) (by simp) (by simp)
    refine useL [_, _, _, _, _, _, _] (M := M3) (by have := vsetslot_R (a := at1) (q := w1) (w := w8) hvW fitW; rw [show putV vW (Ce.sv ⟨at1, true, w1⟩ w8) = _ from putW1] at this; exact this) (VeR.rd _) hg3.marks ⟨hb13.2.2.2.2.2.2.2.2.2.2.2.2, hL3⟩ fun w M4 hg4 hL4 hq => ?_
    obtain ⟨uu, rfl, hvX⟩ := hq
    have hvX : ViR vX uu M4 := hvX
    obtain ⟨t0, n0, t1, n1, t2, n2, t3, n3, rfl⟩ := hvX.e4
    simp only [push_cast, seval, reduceCtorEq, hb13, hb11, hb9, hb7, hb6, hb4, k1, k8]
    refine ⟨subH_gr (N := []) trivial hg4, ?_⟩
    have z13 : fresh b13 M4 := hL4.1
    refine takeR (v := .tuple #[w8.v, .int .i64 0]) (by have := vslot_R (a := at1) (q := w1) hvX fitX; rw [slotX] at this; exact this) (L := ⟨b13, 0, .cel 33, [.slice t0 vX.base.length n0, .slice t1 vX.reads.length n1, .slice t2 vX.writes.length n2, .slice t3 vX.cells.length n3]⟩ :: _) ⟨z13, hL4.2⟩ ?_
    simp only [push_cast, seval, reduceCtorEq, hb13, hb11, hb9, hb7, hb6, hb4, k1, k8]
    intro b16 hb16
    simp only [push_cast, seval, reduceCtorEq, hb16, hb13, hb11, hb9, hb7, hb6, hb4, k1, k8]
    refine useL (_ :: ⟨b13, 0, .cel 33, [.slice t0 vX.base.length n0, .slice t1 vX.reads.length n1, .slice t2 vX.writes.length n2, .slice t3 vX.cells.length n3]⟩ :: _) (M := M4) (by have := vmerge_R (hA3.ext hg4.ext) hvX fitX (by simp); rw [mergeA] at this; exact this) (UndR.rd _) hg4.marks ⟨hb16.2.2.2.2.2.2.2.2.2.2.2.2.2.2, z13, hL4.2⟩ fun w M5 hg5 hL5 hq => ?_
    obtain ⟨uu, rfl, hB⟩ := hq
    have hB : StR [bB] uu M5 := hB
    simp only [push_cast, seval, reduceCtorEq, hb16, hb13, hb11, hb9, hb7, hb6, hb4, k1, k8]
    intro bq hbq
    obtain ⟨c1, c2, c3, c4, c5, c6, c7, c8, c9, c10, c11, c12, c13, c14, c15, c16, cM⟩ := id hbq
    refine CallsV.pre (H' := [_, _, _, _, _, _, _, _] ++ (⟨bq, 0, .vec 45 25 2, kA.cells ++ kA.cells⟩ :: M5)) (List.perm_middle (l₁ := [_, _, _, _, _, _, _, _]) (l₂ := M5)).symm (by simp [marksOf]) ?_
    have hB6 : StR [bB] _ (⟨bq, 0, .vec 45 25 2, kA.cells ++ kA.cells⟩ :: M5) := hB.find (find_behind (L := [_]) (M := M5) ⟨cM, trivial⟩)
    have hK6 : KsR [kA, kA] (.slice (some ⟨bq, 0, none⟩) 2 2) (⟨bq, 0, .vec 45 25 2, kA.cells ++ kA.cells⟩ :: M5) := LiR.two25 (kd := .vec 45 25 2) (by simp [findE])
    obtain ⟨f16, f13, f11, f9, f7, f6, f4, f1, -⟩ := id hL5
    have f16 : fresh b16 M5 := f16
    have f13 : fresh b13 M5 := f13
    refine useL (_ :: ⟨b13, 0, .cel 33, [.slice t0 vX.base.length n0, .slice t1 vX.reads.length n1, .slice t2 vX.writes.length n2, .slice t3 vX.cells.length n3]⟩ :: _) (M := ⟨bq, 0, .vec 45 25 2, kA.cells ++ kA.cells⟩ :: M5) (by have := vopen_ok (StR.nil (⟨bq, 0, .vec 45 25 2, kA.cells ++ kA.cells⟩ :: M5) 0) ⟨_, _, rfl, hK6, LiR.nil _ 0⟩ (⟨by simp, fun y hy => by (cases hy), by simp, by simp, by simp⟩ : Vi.Fit ⟨[], [kA, kA], [], []⟩); rw [openB] at this; exact this) (VeR.rd _) (by simpa [marksOf] using hg5.marks) ⟨⟨c2, c1, f16⟩, ⟨c4, c3, f13⟩, ⟨c6, c5, f11⟩, ⟨c8, c7, f9⟩, ⟨c10, c9, f7⟩, ⟨c12, c11, f6⟩, ⟨c14, c13, f4⟩, ⟨c16, c15, f1⟩, trivial⟩ fun w M7 hg7 hL7 hq => ?_
    have hB7 := hB6.ext hg7.ext
    obtain ⟨uu, rfl, hvB⟩ := hq
    have hvB : ViR ⟨[], [], [], []⟩ uu M7 := hvB
    obtain ⟨g0, h0, g1, h1, g2, h2, g3, h3, rfl⟩ := hvB.e4
    obtain ⟨LB, pB, kB, hLB, rfl, hsB, hcB⟩ := hB7.open
    obtain ⟨sv, rfl⟩ : ∃ sv, LB = [(bB, sv)] := by
      rcases LB with _ | ⟨x, _ | ⟨y, r⟩⟩
      · simp at hLB
      · simp at hLB; exact ⟨x.2, by rw [← hLB]⟩
      · simp at hLB
    rcases hcB with hcB | ⟨eb, ef, ed, ekd, ecs, rfl, hef, hat⟩
    · cases hcB
    have hsv : LiR Sl.cells 8 M7 bB.slots sv := hsB _ (List.mem_singleton.2 rfl)
    obtain ⟨ha1, -, -, hone⟩ := hat 0 _ rfl
    obtain ⟨ha2, ha3⟩ := ha1 26 1 (by decide)
    rw [Nat.zero_mul, Nat.add_zero] at ha2 ha3
    have ha3 : List.take 1 (List.drop (ed + 26) ecs) = [sv] := ha3
    obtain ⟨pS, kS, rfl, hcS⟩ := LiR.openC Sl.len (by decide) hsv
    rcases hcS with hcS | ⟨sb, sf, sd, skd, scs, rfl, hsf, hst⟩
    · cases hcS
    obtain ⟨hs1, hs2⟩ := hst 0 _ rfl
    rw [Nat.zero_mul, Nat.add_zero] at hs1 hs2
    simp only [push_cast, seval, reduceCtorEq, hb16, hb13, hb11, hb9, hb7, hb6, hb4, k1, k8]
    intro b20 hb20
    have z0 : (0 : Int) < 1 := by decide
    have eN := (fresh_findS hb20.2.2.2.2.2.2.2.2.2.2.2.2.2.2.2.2 hef)
    have sN := (fresh_findS hb20.2.2.2.2.2.2.2.2.2.2.2.2.2.2.2.2 hsf)
    obtain ⟨v16, v13, v11, v9, v7, v6, v4, v1, -⟩ := id hL7
    have e16 := (fresh_findS (show fresh b16 M7 from v16) hef).2
    have s16 := (fresh_findS (show fresh b16 M7 from v16) hsf).2
    have e13 := (fresh_findS (show fresh b13 M7 from v13) hef).2
    have s13 := (fresh_findS (show fresh b13 M7 from v13) hsf).2
    have e11 := (fresh_findS (show fresh b11 M7 from v11) hef).2
    have s11 := (fresh_findS (show fresh b11 M7 from v11) hsf).2
    have e9 := (fresh_findS (show fresh b9 M7 from v9) hef).2
    have s9 := (fresh_findS (show fresh b9 M7 from v9) hsf).2
    have e7 := (fresh_findS (show fresh b7 M7 from v7) hef).2
    have s7 := (fresh_findS (show fresh b7 M7 from v7) hsf).2
    have e6 := (fresh_findS (show fresh b6 M7 from v6) hef).2
    have s6 := (fresh_findS (show fresh b6 M7 from v6) hsf).2
    have e4 := (fresh_findS (show fresh b4 M7 from v4) hef).2
    have s4 := (fresh_findS (show fresh b4 M7 from v4) hsf).2
    have e1 := (fresh_findS (show fresh b1 M7 from v1) hef).2
    have s1 := (fresh_findS (show fresh b1 M7 from v1) hsf).2
    have hs3 : List.take 4 (List.drop (sd + 4) scs) = w8.cells := by
      have h : List.take 4 (List.drop 4 (List.take 8 (List.drop sd scs))) = List.take 4 (List.drop 4 (Sl.cells ⟨w1, w8⟩)) := congrArg (fun l => List.take 4 (List.drop 4 l)) hs2
      rw [List.drop_take, List.take_take, List.drop_drop] at h
      exact h
    have nB : bB.slots.length = 1 := rfl
    have q7 : w7 = W.ofInt 7 := rfl
    have q8 : w8 = W.ofInt 8 := rfl
    refine regO gB1_ok ?_
    simp only [push_cast, seval, reduceCtorEq, hb20, hb16, hb13, hb11, hb9, hb7, hb6, hb4, hef, hsf, ha2, ha3, hs1, hs2, hs3, eN.2, sN.2, z0, e16, e13, e11, e9, e7, e6, e4, e1, s16, s13, s11, s9, s7, s6, s4, s1, nB, k7, k8, ← q7, ← q8, List.append_eq, List.cons_append, List.nil_append]
    refine WpV.slots [(2, .func (.func 41) #[] #[]), (6, .int .i64 0), (7, .pointer (some ⟨b7, 0, none⟩)), (8, .int .i64 0), (10, .int .i64 30), (12, .int .i64 30), (13, .pointer (some ⟨b13, 0, none⟩)), (14, .int .i64 0), (15, .int .i64 0), (16, .pointer (some ⟨b16, 0, none⟩)), (17, .int .i64 0), (18, .slice (some ⟨eb, ef + ed, none⟩) 1 kB), (19, .int .i64 0), (20, .pointer (some ⟨b20, 0, none⟩)), (21, .int .i64 1)] (by simp only [push_cast, seval, reduceCtorEq]) ?_
    refine drawO gB1_ok Tryz.mix (Tryz.pl10 16) (by kernel_rfl) ?_
    simp only [push_cast, seval, reduceCtorEq, hb20, hb16, hb13, hb11, hb9, hb7, hb6, hb4, hef, hsf, ha2, ha3, hs1, hs2, hs3, eN.2, sN.2, z0, e16, e13, e11, e9, e7, e6, e4, e1, s16, s13, s11, s9, s7, s6, s4, s1, nB, k7, k8, ← q7, ← q8, List.append_eq, List.cons_append, List.nil_append]
    have hvX7 := ((hvX.ext hg5.ext).find (find_behind (L := [⟨bq, 0, .vec 45 25 2, kA.cells ++ kA.cells⟩]) (M := M5) ⟨cM, trivial⟩)).ext hg7.ext
    refine takeR [_, _, _, _, _, _, _, _, _] (M := M7) (v := .bool true) (by have := vright_R hvX7 fitX; rw [pB_iff.2 riX] at this; exact this) ⟨hb20.2.2.2.2.2.2.2.2.2.2.2.2.2.2.2.2, v16, v13, v11, v9, v7, v6, v4, v1, trivial⟩ ?_
    simp only [push_cast, seval, reduceCtorEq, hb20, hb16, hb13, hb11, hb9, hb7, hb6, hb4, hef, hsf, ha2, ha3, hs1, hs2, hs3, eN.2, sN.2, z0, e16, e13, e11, e9, e7, e6, e4, e1, s16, s13, s11, s9, s7, s6, s4, s1, nB, k7, k8, ← q7, ← q8, List.append_eq, List.cons_append, List.nil_append]
    intro bz hbz
    simp only [push_cast, seval, reduceCtorEq, hbz, hb20, hb16, hb13, hb11, hb9, hb7, hb6, hb4, hef, hsf, ha2, ha3, hs1, hs2, hs3, eN.2, sN.2, z0, e16, e13, e11, e9, e7, e6, e4, e1, s16, s13, s11, s9, s7, s6, s4, s1, nB, k7, k8, ← q7, ← q8, List.append_eq, List.cons_append, List.nil_append]
    try refine ⟨subH_self _, ?_⟩
    refine takeR [] (v := .bool false) ?_ trivial ?_
    · intro M8 hr8 he8
      have h := vright_R (x := ⟨[], [], [], [Ce.z Ky.zero]⟩) (v := .agg #[.slice none 0 0, .slice none 0 0, .slice none 0 0, .slice (some ⟨bz, 0, none⟩) 1 1]) (M := M8) (ViR.rd _ _ _ _ he8.symm ⟨_, _, _, _, rfl, StR.nil _ 0, LiR.nil _ 0, LiR.nil _ 0, LiR.singl (kd := .vec 74 35 1) (if_pos rfl) (Ce.z Ky.zero).len⟩) ⟨by simp, fun y hy => by (cases hy), by simp, by simp, by simp⟩ M8 hr8 rfl
      rw [pB_f riBad] at h
      exact h
    simp only [push_cast, seval, reduceCtorEq, hbz, hb20, hb16, hb13, hb11, hb9, hb7, hb6, hb4, hef, hsf, ha2, ha3, hs1, hs2, hs3, eN.2, sN.2, z0, e16, e13, e11, e9, e7, e6, e4, e1, s16, s13, s11, s9, s7, s6, s4, s1, nB, k7, k8, ← q7, ← q8, List.append_eq, List.cons_append, List.nil_append]
end Go.Proofs.YtincedmdkdjakaaGreat
set_option linter.unusedSimpArgs false
set_option linter.unusedVariables false
namespace Go.Ev
def awk11G : List Value → Option Value
  | [] => some (.bool true)
  | _ => none
end Go.Ev
namespace Go.Proofs.YtincedmdkdjakaaGreat
open Go Go.Ev Go.Proofs
set_option maxRecDepth 100000
set_option maxHeartbeats 4000000
theorem awk11G_ok (args : List Value) (v : Value) (h : awk11G args = some v) : CallsV Tryz.prog 10 args [] (Ret0 v) := by
  unfold awk11G at h
  split at h
  · cases h; exact awk11_ok
  · cases h
noncomputable def gB2 : Gam := (addG 10 awk11G gB1)
attribute [push_cast] gB2
theorem gB2_ok : GamOk Tryz.prog gB2 := (addG_ok awk11G_ok gB1_ok)
attribute [push_cast] awk11G
theorem sameS_R {A : Hp} {s t : List Ac} {v u : Value} (h : RiS s) (ht : RiS t) (h1 : StR s v A) (h2 : StR t u A) : ∀ M0, roM M0 → cellsAt M0 = cellsAt A → CallsV Tryz.prog 24 [v, u] M0 (Ret0 (.bool (decide (s = t)))) := by
  intro M0 hr he
  have hl := h.len
  have hl2 := ht.len
  exact sameS_ok (StR.rd _ _ _ _ he.symm h1) (StR.rd _ _ _ _ he.symm h2) hr.marks (by omega) (by omega) (fun y hy => by have := (mayA_slots (h.may y hy)).len; omega) (fun y hy => by have := (mayA_slots (ht.may y hy)).len; omega)
end Go.Proofs.YtincedmdkdjakaaGreat
set_option linter.unusedSimpArgs false
set_option linter.unusedVariables false
namespace Go.Proofs.YtincedmdkdjakaaGreat
open Go Go.Ev Go.Proofs
set_option maxRecDepth 100000
set_option maxHeartbeats 4000000
end Go.Proofs.YtincedmdkdjakaaGreat
set_option linter.unusedSimpArgs false
set_option linter.unusedVariables false
namespace Go.Proofs.YtincedmdkdjakaaGreat
open Go Go.Ev Go.Proofs
set_option maxRecDepth 100000
set_option maxHeartbeats 4000000
end Go.Proofs.YtincedmdkdjakaaGreat
set_option linter.unusedSimpArgs false
set_option linter.unusedVariables false
namespace Go.Ev
theorem accV_slots (v : Vi) (a : Ad) : (accV v a).1.slots = [] := by
  unfold accV
  split <;> rfl
theorem ViR.parts {x : Vi} {a b c d : Value} {H : Hp} (h : ViR x (.agg #[a, b, c, d]) H) : StR x.base a H ∧ KsR x.reads b H ∧ KsR x.writes c H ∧ CsR x.cells d H := by
  obtain ⟨vb, vr, vw, vc, he, g1, g2, g3, g4⟩ := h
  injection he with he
  have he := congrArg Array.toList he
  simp only [List.cons.injEq, and_true] at he
  obtain ⟨rfl, rfl, rfl, rfl⟩ := he
  exact ⟨g1, g2, g3, g4⟩
end Go.Ev
namespace Go.Proofs.YtincedmdkdjakaaGreat
open Go Go.Ev Go.Proofs
set_option maxRecDepth 100000
set_option maxHeartbeats 1000000
end Go.Proofs.YtincedmdkdjakaaGreat
set_option linter.unusedSimpArgs false
set_option linter.unusedVariables false
namespace Go.Ev
end Go.Ev
namespace Go.Proofs.YtincedmdkdjakaaGreat
open Go Go.Ev Go.Proofs
set_option maxRecDepth 100000
set_option maxHeartbeats 4000000
end Go.Proofs.YtincedmdkdjakaaGreat
set_option linter.unusedSimpArgs false
set_option linter.unusedVariables false
namespace Go.Proofs.YtincedmdkdjakaaGreat
open Go Go.Ev Go.Proofs
set_option maxRecDepth 100000
set_option maxHeartbeats 4000000
end Go.Proofs.YtincedmdkdjakaaGreat
