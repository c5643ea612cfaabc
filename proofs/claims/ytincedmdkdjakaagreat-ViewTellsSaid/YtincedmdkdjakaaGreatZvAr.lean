/- Texts of this claim, merged by program: Uz Ba Bb Bc. -/
import Derived.Test.YtincedmdkdjakaaGreatZvAq
set_option linter.unusedSimpArgs false
set_option linter.unusedVariables false
namespace Go.Ev
theorem WpV.apart {P : Program} {r : Option Nat} {n : Nat} {c : Code} {K : Exit → Tm → Hp → Prop} {T : Tm} {H : Hp} (h : ApartE H → WpV P r n c K T H) : WpV P r n c K T H := fun w0 mu a w hr ht hs hd => h hs.apart w0 mu a w hr ht hs hd
theorem freshN_behind {A M N : Hp} (h : ApartE (A ++ (M ++ N))) (hw : allWr N) : freshN N M :=
  freshN_iff.2 fun e he x hx => (List.pairwise_append.1 (List.pairwise_append.1 h).2.1).2.2 x hx e he (.inr (allWr_mem hw e he))
theorem bS_view {s : List Ac} {v : Value} {H : Hp} (h : StR s v H) : ViR ⟨s, [], [], []⟩ (.agg #[v, .slice none 0 0, .slice none 0 0, .slice none 0 0]) H := ⟨_, _, _, _, rfl, h, LiR.nil H 0, LiR.nil H 0, LiR.nil H 0⟩
theorem fit_st {s : List Ac} (h1 : s.length ≤ 1000000000) (h2 : ∀ y ∈ s, y.slots.length ≤ 2199023255551) : Vi.Fit ⟨s, [], [], []⟩ := ⟨h1, h2, Nat.zero_le _, Nat.zero_le _, Nat.zero_le _⟩
theorem fit_ri {s : List Ac} (h : RiS s) : Vi.Fit ⟨s, [], [], []⟩ := fit_st (by have := h.len; omega) fun y hy => by have := (mayA_slots (h.may y hy)).len; omega
end Go.Ev
namespace Go.Proofs.YtincedmdkdjakaaGreat
open Go Go.Ev Go.Proofs
set_option maxRecDepth 100000
set_option maxHeartbeats 4000000
def plMg : Plans := fun i => if i = 1 then [(0, 9)] else if i = 3 then [(0, 9)] else if i = 4 then [(0, 9)] else if i = 6 then [] else if i = 7 then [(0, 9)] else if i = 9 then [(0, 9)] else if i = 10 then [(0, 9)] else Tryz.pl19 i
attribute [push_cast] plMg
theorem vmerge_R {M : Hp} {s : List Ac} {sv : Value} {x : Vi} {v : Value} (hs : StR s sv M) (hv : ViR x v M) (hb : x.Fit) (hsn : s.length ≤ 1000000000) : CallsR Tryz.prog 19 [sv, v] M (UndR (mergeV s x)) := by
  intro M0 hr he
  have hm := hr.marks
  replace hv := ViR.rd _ _ _ _ he.symm hv
  replace hs := StR.rd _ _ _ _ he.symm hs
  have hv0 := hv
  obtain ⟨vb, vr, vw, vc, rfl, h1, h2, h3, h4⟩ := hv
  obtain ⟨ps, ks, rfl⟩ := hs.slice
  obtain ⟨pb, kb, rfl⟩ := h1.slice
  obtain ⟨pr, kr, rfl⟩ := LiR.slice h2
  obtain ⟨pw, kw, rfl⟩ := LiR.slice h3
  obtain ⟨pc, kc, rfl⟩ := LiR.slice h4
  refine callsO gU4_ok Tryz.mix plMg Tryz.func19 rfl Tryz.ntmps19 Tryz.results19 rfl (by first | rfl | assumption) (Nat.le_of_ble_eq_true rfl) (by kernel_rfl) ?_
  simp only [push_cast, seval, reduceCtorEq]
  intro b2 hb2 b3 hb3 b4 hb4 b5 hb5
  have f2 : fresh b2 M0 := hb2
  have f3 : fresh b3 M0 := hb3.2.2
  have f4 : fresh b4 M0 := hb4.2.2.2.2
  have f5 : fresh b5 M0 := hb5.2.2.2.2.2.2
  refine regO gU4_ok ?_
  simp only [push_cast, seval, reduceCtorEq, hb3, hb4, hb5]
  refine useP [_, _, _, _] (fun M1 hr1 he1 => sright_ok (StR.rd _ _ _ _ he1.symm hs) hr1.marks (by omega)) ⟨f5, f4, f3, f2, trivial⟩ ?_
  cases hrs : rightS s
  · rw [mergeV_bad fun h => by rw [rightS_iff.2 h.1] at hrs; cases hrs]
    simp only [push_cast, seval, reduceCtorEq, hb3, hb4, hb5]
    exact doneK2 [_, _, _, _] (.refl hm) (UndR.rd _) ⟨_, rfl, StR.nil _ 0⟩
  have hri := rightS_iff.1 hrs
  simp only [push_cast, seval, reduceCtorEq, hb3, hb4, hb5]
  refine useP [_, _, _, _] (vright_R hv0 hb) ⟨f5, f4, f3, f2, trivial⟩ ?_
  cases hrv : pB (RiV x)
  · rw [mergeV_bad fun h => pB_not.1 hrv h.2]
    simp only [push_cast, seval, reduceCtorEq, hb3, hb4, hb5]
    exact doneK2 [_, _, _, _] (.refl hm) (UndR.rd _) ⟨_, rfl, StR.nil _ 0⟩
  have hriv := pB_iff.1 hrv
  rw [mergeV_ok ⟨hri, hriv⟩]
  simp only [push_cast, seval, reduceCtorEq, hb3, hb4, hb5]
  refine regO gU4_ok ?_
  simp only [push_cast, seval, reduceCtorEq, hb3, hb4, hb5]
  refine useL [_, _, _, _] (vown_R (bS_view hs) (fit_ri hri)) (ViR.rd _) hm ⟨f5, f4, f3, f2, trivial⟩ fun u M1 hg1 hL1 hq => ?_
  obtain ⟨ub, ur, uw, uc, rfl, g1, g2, g3, g4⟩ := hq
  obtain ⟨qb, lb, rfl⟩ := StR.slice g1
  obtain ⟨qr, lr, rfl⟩ := LiR.slice g2
  obtain ⟨qw, lw, rfl⟩ := LiR.slice g3
  obtain ⟨qc, lc, rfl⟩ := LiR.slice g4
  simp only [push_cast, seval, reduceCtorEq, hb3, hb4, hb5]
  refine regO gU4_ok ?_
  simp only [push_cast, seval, reduceCtorEq, hb3, hb4, hb5]
  refine (valuesC_ok pc x.cells.length kc).use trivial ?_
  rintro _ _ ⟨d1, rfl, rfl⟩
  refine ⟨⟨trivial, trivial⟩, rfl, fun hfn => ?_⟩
  have fd1 := hfn.1
  simp only [push_cast, seval, reduceCtorEq] at fd1
  simp only [push_cast, seval, reduceCtorEq, hb3, hb4, hb5, fd1]
  obtain ⟨-, N0, rfl, hwN0, hmN0⟩ := hg1
  have sp2 := fresh_app_iff.1 hL1.2.2.2.1
  have sp3 := fresh_app_iff.1 hL1.2.2.1
  have sp4 := fresh_app_iff.1 hL1.2.1
  have sp5 := fresh_app_iff.1 hL1.1
  have spd := fresh_app_iff.1 fd1.2.2.2.2.2.2.2.2
  refine WpV.apart fun hapart => ?_
  have hN0M : freshN N0 M0 := freshN_behind (A := [_, _, _, _, _]) hapart hwN0
  refine WpV.perm (H' := ([⟨d1, 0, .cel 31, [.slice pc x.cells.length kc]⟩, ⟨b5, 0, .cel 47, [.int .i64 0]⟩, ⟨b4, 0, .cel 27, [.slice none 0 0]⟩, ⟨b3, 0, .cel 33, [.slice pb x.base.length kb, .slice pr x.reads.length kr, .slice pw x.writes.length kw, .slice pc x.cells.length kc]⟩, ⟨b2, 0, .cel 27, [.slice qb s.length lb]⟩] ++ N0) ++ M0) ?_ ?_ ?_
  · classical
    refine List.perm_iff_count.2 fun a => ?_
    simp only [List.count_append, List.count_cons, List.count_nil]
    omega
  · simp [marks_append, marksOf, hm, hmN0]
  refine WpV.dup (M := M0) hr (freshN_appL.2 ⟨⟨spd.1, sp5.1, sp4.1, sp3.1, sp2.1, trivial⟩, hN0M⟩) ?_
  refine WpV.perm (H' := (⟨d1, 0, .cel 31, [.slice pc x.cells.length kc]⟩ :: M0) ++ ((⟨b2, 0, .cel 27, [.slice qb s.length lb]⟩ :: ⟨b4, 0, .cel 27, [.slice none 0 0]⟩ :: ⟨b5, 0, .cel 47, [.int .i64 0]⟩ :: (M0 ++ N0)) ++ [⟨b3, 0, .cel 33, [.slice pb x.base.length kb, .slice pr x.reads.length kr, .slice pw x.writes.length kw, .slice pc x.cells.length kc]⟩])) ?_ ?_ ?_
  · classical
    refine List.perm_iff_count.2 fun a => ?_
    simp only [List.count_append, List.count_cons, List.count_nil]
    omega
  · simp [marksOf, marks_append, hm, hmN0]
  have hg1 : Gr M0 (M0 ++ N0) := ⟨hm, N0, rfl, hwN0, hmN0⟩
  have g2' : fresh b2 (M0 ++ N0) := hL1.2.2.2.1
  have g4' : fresh b4 (M0 ++ N0) := hL1.2.1
  have g5' : fresh b5 (M0 ++ N0) := hL1.1
  obtain ⟨R, hR⟩ : ∃ R, R = goM s x.cells := ⟨_, rfl⟩
  rw [← hR]
  have hit := ceIter (Hc := ⟨d1, 0, .cel 31, [.slice pc x.cells.length kc]⟩ :: M0) (ss := x.cells) (b1 := d1) (k1 := .cel 31) (LiR.app (N := [_]) h4 ⟨spd.1, trivial⟩) (by have := hb.c; omega) (by simpa [marksOf] using hm) (by simp [findE])
  refine rangeO gU4_ok (pl := plMg) Tryz.mix (Hc := ⟨d1, 0, .cel 31, [.slice pc x.cells.length kc]⟩ :: M0) (Hm := []) hit rfl
    (X := {y : (Value × Value × Int) × Hp // Gr M0 y.2 ∧ fresh b2 y.2 ∧ fresh b4 y.2 ∧ fresh b5 y.2}) (fun y => ⟨b2, 0, .cel 27, [y.1.1.1]⟩ :: ⟨b4, 0, .cel 27, [y.1.1.2.1]⟩ :: ⟨b5, 0, .cel 47, [.int .i64 y.1.1.2.2]⟩ :: y.1.2)
    (fun k y => y.1.1.2.1 = .slice none 0 0 ∧ y.1.1.2.2 = 0 ∧ ∃ t, StR t y.1.1.1 y.1.2 ∧ RiS t ∧ R = goM t (x.cells.drop k))
    (fun c y => c = .ret ∧ StR R.1 y.1.1.2.1 y.1.2 ∧ R.2 = y.1.1.2.2) ⟨((.slice qb s.length lb, .slice none 0 0, 0), M0 ++ N0), hg1, g2', g4', g5'⟩
    ?_ ?_ ?_ ?_ (by simp) (fun y => ?_) (fun y u e heu => ?_) ?_ (by kernel_rfl) (by kernel_rfl) ?_ ?_ ?_ ?_
  · exact ⟨rfl, rfl, s, g1, hri, by rw [List.drop_zero]; exact hR⟩
  · rw [← List.append_assoc]
    exact subH_front _ _
  · simp [marksOf, marks_append, hm, hmN0]
  · simpa [marksOf] using hm
  · simpa [marksOf] using y.2.1.marks
  · obtain ⟨-, N, hMN, hwN, -⟩ := u.2.1
    obtain ⟨-, N', hM', -, -⟩ := y.2.1
    rw [hMN] at heu
    rcases List.mem_cons.1 heu with rfl | heu
    · exact .inl trivial
    rcases List.mem_cons.1 heu with rfl | heu
    · exact .inl trivial
    rcases List.mem_cons.1 heu with rfl | heu
    · exact .inl trivial
    rcases List.mem_append.1 heu with heu | heu
    · exact .inr (by rw [hM']; simp [heu])
    · exact .inl (allWr_mem hwN e heu)
  · intro args ha
    obtain ⟨z, _, rfl⟩ := List.mem_map.1 ha
    rfl
  · rintro c y ⟨rfl, -⟩
    kernel_rfl
  · rintro lo k ⟨⟨⟨w, w4, e0⟩, M1⟩, hg1, g2, g4, g5⟩ args hk ⟨h40, he0, t, hw, hrt, hRt⟩
    dsimp only at h40 he0 hw hrt hRt g2 g4 g5 hg1 ⊢
    subst h40
    subst he0
    obtain ⟨c, hc, rfl⟩ := Option.map_eq_some_iff.1 ((List.getElem?_map ..).symm.trans hk)
    have hlt := (List.getElem?_eq_some_iff.1 hc).1
    have hdr : x.cells.drop k = c :: x.cells.drop (k + 1) := by rw [List.drop_eq_getElem_cons hlt, (List.getElem?_eq_some_iff.1 hc).2]
    rw [hdr, goM_cons] at hRt
    obtain ⟨pw, kw, rfl⟩ := hw.slice
    have hwn : t.length ≤ 1000000000 := by have := hrt.len; omega
    have hws : ∀ y ∈ t, y.slots.length ≤ 2199023255551 := fun y hy => by have := (mayA_slots (hrt.may y hy)).len; omega
    have hgm := hg1.marks
    obtain ⟨a, ha⟩ : ∃ a, a = findS t c.key.at_ := ⟨_, rfl⟩
    obtain ⟨a', e, hap⟩ : ∃ a' e, appC a c = (a', e) := ⟨_, _, rfl⟩
    rw [← ha, hap] at hRt
    dsimp only at hRt
    generalize hRK : (roundK _ _ _ k : Exit → Tm → Hp → Prop) = RK
    show oC _ _ _ _ _ _ _ (parT 48 _ _ [c.v]) _
    simp only [push_cast, seval, reduceCtorEq, hb3, hb4, hb5]
    intro b6 hb6
    refine ⟨hgm, roSub_of fun e he => .inr (by simp [he]), ?_⟩
    have g6 : fresh b6 M1 := hb6.2.2.2.2.2.2
    have hLX : freshN [⟨b6, 0, .cel 74, c.cells⟩, ⟨b2, 0, .cel 27, [.slice pw t.length kw]⟩, ⟨b4, 0, .cel 27, [.slice none 0 0]⟩, ⟨b5, 0, .cel 47, [.int .i64 0]⟩] M1 := ⟨g6, g2, g4, g5, trivial⟩
    have fB2 : findE (⟨b6, 0, .cel 74, c.cells⟩ :: ⟨b2, 0, .cel 27, [.slice pw t.length kw]⟩ :: ⟨b4, 0, .cel 27, [.slice none 0 0]⟩ :: ⟨b5, 0, .cel 47, [.int .i64 0]⟩ :: M1) b2 = some ⟨b2, 0, .cel 27, [.slice pw t.length kw]⟩ := by simp only [push_cast, seval, reduceCtorEq, hb6]
    have fB6 : findE (⟨b6, 0, .cel 74, c.cells⟩ :: ⟨b2, 0, .cel 27, [.slice pw t.length kw]⟩ :: ⟨b4, 0, .cel 27, [.slice none 0 0]⟩ :: ⟨b5, 0, .cel 47, [.int .i64 0]⟩ :: M1) b6 = some ⟨b6, 0, .cel 74, c.cells⟩ := by simp only [push_cast, seval, reduceCtorEq, hb6]
    refine drawS gU4_ok Tryz.mix [(2, .pointer (some ⟨b2, 0, none⟩)), (4, .pointer (some ⟨b4, 0, none⟩)), (5, .pointer (some ⟨b5, 0, none⟩)), (6, .pointer (some ⟨b6, 0, none⟩))]
        (fun i val => match i with
          | 0 => val 0 = .slice pw t.length kw
          | 1 => val 1 = .pointer (some ⟨b6, 0, none⟩)
          | 2 => val 2 = .pointer (some ⟨b6, 0, none⟩)
          | 3 => val 3 = c.key.at_.v
          | 4 => ∃ p k, val 4 = .agg (a.cells (Value.slice p a.slots.length k)).toArray
          | 5 => val 5 = c.v
          | 6 => ∃ p k, val 6 = .tuple #[.agg (a'.cells (Value.slice p a'.slots.length k)).toArray, .int .i64 e]
          | 7 => val 7 = val 6 ∧ ∃ p k, val 6 = .tuple #[.agg (a'.cells (Value.slice p a'.slots.length k)).toArray, .int .i64 e]
          | 8 => ∃ p k, val 8 = .agg (a'.cells (Value.slice p a'.slots.length k)).toArray ∧ val 7 = .tuple #[val 8, .int .i64 e]
          | 9 => val 9 = .int .i64 e
          | 10 => ∃ b, val 10 = .pointer (some ⟨b, 0, none⟩)
          | 12 => val 12 = .int .i64 e
          | _ => True)
        (fun i val N => match i with
          | 4 => allWr N ∧ marksOf N = [] ∧ AcR a (val 4) (N ++ M1)
          | 6 => allWr N ∧ marksOf N = [] ∧ ApR (a', e) (val 6) (N ++ M1)
          | 7 => N = []
          | 8 => N = []
          | 10 => ∃ b, val 10 = .pointer (some ⟨b, 0, none⟩) ∧ N = [⟨b, 0, .cel 53, Ac.zeroC⟩]
          | 11 => ∃ b p k, val 10 = .pointer (some ⟨b, 0, none⟩) ∧ val 8 = .agg (a'.cells (Value.slice p a'.slots.length k)).toArray ∧ N = [⟨b, 0, .cel 53, a'.cells (Value.slice p a'.slots.length k)⟩]
          | _ => N = []) (fun i => if i = 6 then [4] else if i = 11 then [10] else []) [6, 11] (by kernel_rfl) (by kernel_rfl) (by kernel_rfl) ?_ (by rfl) (by decide) (by kernel_rfl) ?_ ?_ ?_ ?_ ?_
    · simp only [push_cast, seval, reduceCtorEq, subT]
    · intro i hi hiF
      replace hi : i < 13 := hi
      obtain rfl | rfl | rfl | rfl | rfl | rfl | rfl | rfl | rfl | rfl | rfl | rfl | rfl : i = 0 ∨ i = 1 ∨ i = 2 ∨ i = 3 ∨ i = 4 ∨ i = 5 ∨ i = 6 ∨ i = 7 ∨ i = 8 ∨ i = 9 ∨ i = 10 ∨ i = 11 ∨ i = 12 := by omega
      all_goals first
        | exact .inl fun _ _ h => h
        | exact absurd (by decide) hiF
        | exact .inr (by kernel_rfl)
    · intro i o ho val val' h1 h2 hV
      have hi := (Array.getElem?_eq_some_iff.1 ho).1
      replace hi : i < 13 := hi
      obtain rfl | rfl | rfl | rfl | rfl | rfl | rfl | rfl | rfl | rfl | rfl | rfl | rfl : i = 0 ∨ i = 1 ∨ i = 2 ∨ i = 3 ∨ i = 4 ∨ i = 5 ∨ i = 6 ∨ i = 7 ∨ i = 8 ∨ i = 9 ∨ i = 10 ∨ i = 11 ∨ i = 12 := by omega
      · first
          | exact trivial
          | exact hV
          | exact h1.trans hV
          | (rw [h1]; exact hV)
      · first
          | exact trivial
          | exact hV
          | exact h1.trans hV
          | (rw [h1]; exact hV)
      · first
          | exact trivial
          | exact hV
          | exact h1.trans hV
          | (rw [h1]; exact hV)
      · first
          | exact trivial
          | exact hV
          | exact h1.trans hV
          | (rw [h1]; exact hV)
      · first
          | exact trivial
          | exact hV
          | exact h1.trans hV
          | (rw [h1]; exact hV)
      · first
          | exact trivial
          | exact hV
          | exact h1.trans hV
          | (rw [h1]; exact hV)
      · first
          | exact trivial
          | exact hV
          | exact h1.trans hV
          | (rw [h1]; exact hV)
      · simp only [List.getElem?_toArray, List.getElem?_cons_zero, List.getElem?_cons_succ, Option.some.injEq] at ho; subst ho
        have h5 := h2 6 (by kernel_rfl)
        obtain ⟨a1, p5, k5, a2⟩ := hV
        exact ⟨by rw [h1, h5]; exact a1, p5, k5, by rw [h5]; exact a2⟩
      · simp only [List.getElem?_toArray, List.getElem?_cons_zero, List.getElem?_cons_succ, Option.some.injEq] at ho; subst ho
        have h6 := h2 7 (by kernel_rfl)
        obtain ⟨p5, k5, a1, a2⟩ := hV
        exact ⟨p5, k5, by rw [h1]; exact a1, by rw [h6, h1]; exact a2⟩
      · first
          | exact trivial
          | exact hV
          | exact h1.trans hV
          | (rw [h1]; exact hV)
      · first
          | exact trivial
          | exact hV
          | exact h1.trans hV
          | (rw [h1]; exact hV)
      · first
          | exact trivial
          | exact hV
          | exact h1.trans hV
          | (rw [h1]; exact hV)
      · first
          | exact trivial
          | exact hV
          | exact h1.trans hV
          | (rw [h1]; exact hV)
    · intro i o ho val val' N h1 h2 hQ
      have hi := (Array.getElem?_eq_some_iff.1 ho).1
      replace hi : i < 13 := hi
      obtain rfl | rfl | rfl | rfl | rfl | rfl | rfl | rfl | rfl | rfl | rfl | rfl | rfl : i = 0 ∨ i = 1 ∨ i = 2 ∨ i = 3 ∨ i = 4 ∨ i = 5 ∨ i = 6 ∨ i = 7 ∨ i = 8 ∨ i = 9 ∨ i = 10 ∨ i = 11 ∨ i = 12 := by omega
      · first
          | exact trivial
          | exact hQ
          | exact h1.trans hQ
          | (rw [h1]; exact hQ)
      · first
          | exact trivial
          | exact hQ
          | exact h1.trans hQ
          | (rw [h1]; exact hQ)
      · first
          | exact trivial
          | exact hQ
          | exact h1.trans hQ
          | (rw [h1]; exact hQ)
      · first
          | exact trivial
          | exact hQ
          | exact h1.trans hQ
          | (rw [h1]; exact hQ)
      · first
          | exact trivial
          | exact hQ
          | exact h1.trans hQ
          | (rw [h1]; exact hQ)
      · first
          | exact trivial
          | exact hQ
          | exact h1.trans hQ
          | (rw [h1]; exact hQ)
      · first
          | exact trivial
          | exact hQ
          | exact h1.trans hQ
          | (rw [h1]; exact hQ)
      · first
          | exact trivial
          | exact hQ
          | exact h1.trans hQ
          | (rw [h1]; exact hQ)
      · first
          | exact trivial
          | exact hQ
          | exact h1.trans hQ
          | (rw [h1]; exact hQ)
      · first
          | exact trivial
          | exact hQ
          | exact h1.trans hQ
          | (rw [h1]; exact hQ)
      · first
          | exact trivial
          | exact hQ
          | exact h1.trans hQ
          | (rw [h1]; exact hQ)
      · simp only [List.getElem?_toArray, List.getElem?_cons_zero, List.getElem?_cons_succ, Option.some.injEq] at ho; subst ho
        have h10 := h2 10 (by kernel_rfl)
        have h7 := h2 8 (by kernel_rfl)
        obtain ⟨b, p, k, a1, a2, a3⟩ := hQ
        exact ⟨b, p, k, by rw [h10]; exact a1, by rw [h7]; exact a2, a3⟩
      · first
          | exact trivial
          | exact hQ
          | exact h1.trans hQ
          | (rw [h1]; exact hQ)
    · intro i o ho T' Y val mem hT hdep hus hfr hY hmY hapY
      have hi := (Array.getElem?_eq_some_iff.1 ho).1
      replace hi : i < 13 := hi
      have y2 := hY _ _ fB2
      have y6 := hY _ _ fB6
      have hM0Y : ∀ b e, findE M1 b = some e → findE Y b = some e := fun b e h => hY b e (find_behind hLX b e h)
      have t2 : getT T' 2 = some (.pointer (some ⟨b2, 0, none⟩)) := hT.1
      have t6 : getT T' 6 = some (.pointer (some ⟨b6, 0, none⟩)) := hT.2.2.2.1
      obtain rfl | rfl | rfl | rfl | rfl | rfl | rfl | rfl | rfl | rfl | rfl | rfl | rfl : i = 0 ∨ i = 1 ∨ i = 2 ∨ i = 3 ∨ i = 4 ∨ i = 5 ∨ i = 6 ∨ i = 7 ∨ i = 8 ∨ i = 9 ∨ i = 10 ∨ i = 11 ∨ i = 12 := by omega
      · simp only [List.getElem?_toArray, List.getElem?_cons_zero, List.getElem?_cons_succ, Option.some.injEq] at ho; subst ho
        simp only [push_cast, seval, reduceCtorEq, List.flatMap_nil, List.flatMap_cons, List.append_nil, List.nil_append, t2, y2]
        exact ⟨[], rfl, trivial, rfl, upd_self _ _ _, rfl⟩
      · simp only [List.getElem?_toArray, List.getElem?_cons_zero, List.getElem?_cons_succ, Option.some.injEq] at ho; subst ho
        simp only [push_cast, seval, reduceCtorEq, List.flatMap_nil, List.flatMap_cons, List.append_nil, List.nil_append, t6]
        exact ⟨[], rfl, trivial, rfl, upd_self _ _ _, rfl⟩
      · simp only [List.getElem?_toArray, List.getElem?_cons_zero, List.getElem?_cons_succ, Option.some.injEq] at ho; subst ho
        obtain ⟨v1, g1⟩ := hdep 1 (by kernel_rfl)
        replace g1 := g1 27 rfl
        rw [show val 1 = _ from v1] at g1
        simp only [push_cast, seval, reduceCtorEq, List.flatMap_nil, List.flatMap_cons, List.append_nil, List.nil_append, g1]
        exact ⟨[], rfl, trivial, rfl, upd_self _ _ _, rfl⟩
      · simp only [List.getElem?_toArray, List.getElem?_cons_zero, List.getElem?_cons_succ, Option.some.injEq] at ho; subst ho
        obtain ⟨v2, g2⟩ := hdep 2 (by kernel_rfl)
        replace g2 := g2 28 rfl
        rw [show val 2 = _ from v2] at g2
        simp only [push_cast, seval, reduceCtorEq, List.flatMap_nil, List.flatMap_cons, List.append_nil, List.nil_append, g2, y6]
        exact ⟨[], rfl, trivial, rfl, upd_self _ _ _, rfl⟩
      · simp only [List.getElem?_toArray, List.getElem?_cons_zero, List.getElem?_cons_succ, Option.some.injEq] at ho; subst ho
        obtain ⟨v0, g0⟩ := hdep 0 (by kernel_rfl)
        replace g0 := g0 26 rfl
        rw [show val 0 = _ from v0] at g0
        obtain ⟨v3, g3⟩ := hdep 3 (by kernel_rfl)
        replace g3 := g3 29 rfl
        rw [show val 3 = _ from v3] at g3
        simp only [push_cast, seval, reduceCtorEq, List.flatMap_nil, List.flatMap_cons, List.append_nil, List.nil_append, g0, g3]
        refine callS (M := M1) (by have := sfind_ok (a := c.key.at_) hw hwn hws; rw [← ha] at this; exact this) (AcR.rd _) hM0Y fun w N hw hm1 hf hq => ⟨N, rfl, hw, hm1, ?_, ?_⟩
        · obtain ⟨sv, rfl, hsv⟩ := hq
          obtain ⟨p1, k1, rfl⟩ := hsv.slice
          exact ⟨p1, k1, by rw [upd_self]⟩
        · rw [upd_self]; exact ⟨hw, hm1, hq⟩
      · simp only [List.getElem?_toArray, List.getElem?_cons_zero, List.getElem?_cons_succ, Option.some.injEq] at ho; subst ho
        simp only [push_cast, seval, reduceCtorEq, List.flatMap_nil, List.flatMap_cons, List.append_nil, List.nil_append, t6, y6]
        exact ⟨[], rfl, trivial, rfl, upd_self _ _ _, rfl⟩
      · simp only [List.getElem?_toArray, List.getElem?_cons_zero, List.getElem?_cons_succ, Option.some.injEq] at ho; subst ho
        obtain ⟨v4, g4⟩ := hdep 4 (by kernel_rfl)
        replace g4 := g4 30 rfl
        obtain ⟨v5, g5⟩ := hdep 5 (by kernel_rfl)
        replace g5 := g5 31 rfl
        rw [show val 5 = _ from v5] at g5
        obtain ⟨p3, k3, v4⟩ := v4
        obtain ⟨w3, m3, sv3, hq3a, hq3⟩ := hus 4 (List.mem_singleton.2 rfl)
        have v4 : val 4 = _ := v4
        have hq3a : val 4 = _ := hq3a
        rw [hq3a] at v4
        have hsv3 : sv3 = Value.slice p3 a.slots.length k3 := Ac.cells_sv (by injection v4 with h; simpa using congrArg Array.toList h)
        subst hsv3
        rw [hq3a] at g4
        have fr3 : freshN (mem 4) Y := by simpa using hfr
        simp only [push_cast, seval, reduceCtorEq, List.flatMap_nil, List.flatMap_cons, List.append_nil, List.nil_append, g4, g5]
        refine callS (M := mem 4 ++ M1) (by have := apply_R (c := c) hq3; rw [hap] at this; exact this) (ApR.rd _) (find_front hM0Y) fun w N hw hm1 hf hq => ⟨N ++ mem 4, by rw [List.append_assoc], allWr_app hw w3, by rw [marks_append, hm1, m3]; rfl, ?_, ?_⟩
        · obtain ⟨sv, rfl, hsv⟩ := hq
          obtain ⟨p1, k1, rfl⟩ := hsv.slice
          exact ⟨p1, k1, by rw [upd_self]⟩
        · rw [upd_self]
          refine ⟨allWr_app hw w3, by rw [marks_append, hm1, m3]; rfl, ?_⟩
          rw [List.append_assoc]; exact hq
      · simp only [List.getElem?_toArray, List.getElem?_cons_zero, List.getElem?_cons_succ, Option.some.injEq] at ho; subst ho
        obtain ⟨v6, g6⟩ := hdep 6 (by kernel_rfl)
        replace g6 := g6 32 rfl
        simp only [push_cast, seval, reduceCtorEq, List.flatMap_nil, List.flatMap_cons, List.append_nil, List.nil_append, g6]
        obtain ⟨p5, k5, v6⟩ := v6
        refine ⟨[], rfl, trivial, rfl, ⟨?_, p5, k5, ?_⟩, rfl⟩
        · simp [upd]
        · simpa [upd] using v6
      · simp only [List.getElem?_toArray, List.getElem?_cons_zero, List.getElem?_cons_succ, Option.some.injEq] at ho; subst ho
        obtain ⟨v7, g7⟩ := hdep 7 (by kernel_rfl)
        replace g7 := g7 25 rfl
        obtain ⟨v7, p5, k5, v6⟩ := v7
        have v7 : val 7 = _ := v7
        rw [v7, v6] at g7
        simp only [push_cast, seval, reduceCtorEq, List.flatMap_nil, List.flatMap_cons, List.append_nil, List.nil_append, g7]
        refine ⟨[], rfl, trivial, rfl, ⟨p5, k5, ?_, ?_⟩, rfl⟩
        · simp [upd]
        · simp [upd, v7, v6]
      · simp only [List.getElem?_toArray, List.getElem?_cons_zero, List.getElem?_cons_succ, Option.some.injEq] at ho; subst ho
        obtain ⟨v7, g7⟩ := hdep 7 (by kernel_rfl)
        replace g7 := g7 25 rfl
        obtain ⟨v7, p5, k5, v6⟩ := v7
        have v7 : val 7 = _ := v7
        rw [v7, v6] at g7
        simp only [push_cast, seval, reduceCtorEq, List.flatMap_nil, List.flatMap_cons, List.append_nil, List.nil_append, g7]
        exact ⟨[], rfl, trivial, rfl, upd_self _ _ _, rfl⟩
      · simp only [List.getElem?_toArray, List.getElem?_cons_zero, List.getElem?_cons_succ, Option.some.injEq] at ho; subst ho
        simp only [push_cast, seval, reduceCtorEq, List.flatMap_nil, List.flatMap_cons, List.append_nil, List.nil_append]
        intro b hf
        exact ⟨[_], rfl, ⟨trivial, trivial⟩, rfl, ⟨b, upd_self _ _ _⟩, b, upd_self _ _ _, rfl⟩
      · simp only [List.getElem?_toArray, List.getElem?_cons_zero, List.getElem?_cons_succ, Option.some.injEq] at ho; subst ho
        obtain ⟨v8, g8⟩ := hdep 8 (by kernel_rfl)
        replace g8 := g8 33 rfl
        obtain ⟨v10, g10⟩ := hdep 10 (by kernel_rfl)
        replace g10 := g10 7 rfl
        obtain ⟨p7, k7, v8, -⟩ := v8
        have v8 : val 8 = _ := v8
        rw [v8] at g8
        obtain ⟨b10, v10, hN⟩ := hus 10 (List.mem_singleton.2 rfl)
        have v10 : val 10 = _ := v10
        rw [v10] at g10
        simp only [push_cast, seval, reduceCtorEq, List.flatMap_nil, List.flatMap_cons, List.append_nil, List.nil_append, g8, g10, hN, List.cons_append, Ac.zeroC]
        refine ⟨[_], rfl, ⟨trivial, trivial⟩, rfl, b10, p7, k7, ?_, ?_, rfl⟩
        · simp [upd, v10]
        · simp [upd, v8]
      · simp only [List.getElem?_toArray, List.getElem?_cons_zero, List.getElem?_cons_succ, Option.some.injEq] at ho; subst ho
        obtain ⟨v9, g9⟩ := hdep 9 (by kernel_rfl)
        replace g9 := g9 34 rfl
        rw [show val 9 = _ from v9] at g9
        simp only [push_cast, seval, reduceCtorEq, List.flatMap_nil, List.flatMap_cons, List.append_nil, List.nil_append, g9]
        exact ⟨[], rfl, trivial, rfl, upd_self _ _ _, rfl⟩
    · intro val mem hV hQ hap hwr
      obtain ⟨p5, k5, v6⟩ := hV 6 (by decide)
      obtain ⟨w5, m5, sv5, hq5a, hq5⟩ := hQ 6 (by decide)
      obtain ⟨b7, p7, k7, v10, v8, hN11⟩ := hQ 11 (by decide)
      obtain ⟨h6, -⟩ := hV 7 (by decide)
      obtain ⟨-, -, -, h76⟩ := hV 8 (by decide)
      have v9 : val 9 = .int .i64 e := hV 9 (by decide)
      have v12 : val 12 = .int .i64 e := hV 12 (by decide)
      have v10 : val 10 = _ := v10
      have v8 : val 8 = _ := v8
      have hq5a : val 6 = _ := hq5a
      have h6 : val 7 = val 6 := h6
      have h76 : val 7 = .tuple #[val 8, .int .i64 e] := h76
      rw [h6, hq5a, v8] at h76
      have hs5 : sv5 = Value.slice p7 a'.slots.length k7 := Ac.cells_sv (by injection h76 with h; have h1 := congrArg Array.toList h; simp only [List.cons.injEq, Value.agg.injEq] at h1; simpa using congrArg Array.toList h1.1)
      subst hs5
      have hMM : List.flatMap mem [6, 11] ++ (⟨b6, 0, .cel 74, c.cells⟩ :: ⟨b2, 0, .cel 27, [.slice pw t.length kw]⟩ :: ⟨b4, 0, .cel 27, [.slice none 0 0]⟩ :: ⟨b5, 0, .cel 47, [.int .i64 0]⟩ :: M1) = mem 6 ++ (⟨b7, 0, .cel 53, a'.cells (Value.slice p7 a'.slots.length k7)⟩ :: ⟨b6, 0, .cel 74, c.cells⟩ :: ⟨b2, 0, .cel 27, [.slice pw t.length kw]⟩ :: ⟨b4, 0, .cel 27, [.slice none 0 0]⟩ :: ⟨b5, 0, .cel 47, [.int .i64 0]⟩ :: M1) := by
        simp only [List.flatMap_cons, List.flatMap_nil, List.append_nil, hN11, List.append_assoc, List.cons_append, List.nil_append]
      rw [hMM] at hap ⊢
      have a5 := freshN_apart hap w5
      have hap' := (List.pairwise_append.1 hap).2.1
      have a7 := freshN_apart (A := [⟨b7, 0, .cel 53, a'.cells (Value.slice p7 a'.slots.length k7)⟩]) hap' ⟨trivial, trivial⟩
      have q57 := freshN_sym a5
      have hb7 := a7.1
      simp only [push_cast, seval, reduceCtorEq] at hb7
      have f70 : fresh b7 (M1 ++ mem 6) := fresh_app_iff.2 ⟨hb7.2.2.2.2.2.2.2.2, q57.1⟩
      have f60 : fresh b6 (M1 ++ mem 6) := fresh_app_iff.2 ⟨g6, q57.2.1⟩
      have f20 : fresh b2 (M1 ++ mem 6) := fresh_app_iff.2 ⟨g2, q57.2.2.1⟩
      have f40 : fresh b4 (M1 ++ mem 6) := fresh_app_iff.2 ⟨g4, q57.2.2.2.1⟩
      have f50 : fresh b5 (M1 ++ mem 6) := fresh_app_iff.2 ⟨g5, q57.2.2.2.2.1⟩
      have hg2 : Gr M1 (M1 ++ mem 6) := ⟨hgm, mem 6, rfl, w5, m5⟩
      have hl5 : LiR Sl.cells 8 (M1 ++ mem 6) a'.slots (Value.slice p7 a'.slots.length k7) := hq5.congr (cellsAt_swap (freshN_cons (freshN_cons (freshN_cons (freshN_cons (freshN_cons a5))))))
      simp only [push_cast, seval, reduceCtorEq, v8, v9, v10, v12]
      refine WpV.perm (H' := ⟨b7, 0, .cel 53, a'.cells (Value.slice p7 a'.slots.length k7)⟩ :: ⟨b6, 0, .cel 74, c.cells⟩ :: ⟨b2, 0, .cel 27, [.slice pw t.length kw]⟩ :: ⟨b4, 0, .cel 27, [.slice none 0 0]⟩ :: ⟨b5, 0, .cel 47, [.int .i64 0]⟩ :: (M1 ++ mem 6)) ?_ ?_ ?_
      · exact List.perm_append_comm
      · simp [marks_append, marksOf, m5, hgm]
      refine WpV.slots [(2, .pointer (some ⟨b2, 0, none⟩)), (4, .pointer (some ⟨b4, 0, none⟩)), (5, .pointer (some ⟨b5, 0, none⟩)), (7, .pointer (some ⟨b7, 0, none⟩)), (8, .int .i64 e)] (by simp only [push_cast, seval, reduceCtorEq]) ?_
      generalize M1 ++ mem 6 = M2 at hg2 hl5 f70 f60 f20 f40 f50 ⊢
      have hw2 : StR t (.slice pw t.length kw) M2 := hw.ext hg2.ext
      have x7 : ∀ (e2 e4 e5 : Ent) (H : Hp), e2.blk = b2 → e4.blk = b4 → e5.blk = b5 → fresh b7 H → fresh b7 (e2 :: e4 :: e5 :: H) := fun e2 e4 e5 H h2 h4 h5 hh => ⟨h2 ▸ hb7.2.2.1, h2 ▸ hb7.2.2.2.1, h4 ▸ hb7.2.2.2.2.1, h4 ▸ hb7.2.2.2.2.2.1, h5 ▸ hb7.2.2.2.2.2.2.1, h5 ▸ hb7.2.2.2.2.2.2.2.1, hh⟩
      have x6 : ∀ (e2 e4 e5 : Ent) (H : Hp), e2.blk = b2 → e4.blk = b4 → e5.blk = b5 → fresh b6 H → fresh b6 (e2 :: e4 :: e5 :: H) := fun e2 e4 e5 H h2 h4 h5 hh => ⟨h2 ▸ hb6.1, h2 ▸ hb6.2.1, h4 ▸ hb6.2.2.1, h4 ▸ hb6.2.2.2.1, h5 ▸ hb6.2.2.2.2.1, h5 ▸ hb6.2.2.2.2.2.1, hh⟩
      refine regO gU4_ok ?_
      by_cases hz0 : e = 0
      case neg =>
        have hz1 : (e != 0) = true := bne_iff_ne.2 hz0
        rw [if_neg hz0] at hRt
        simp only [push_cast, seval, reduceCtorEq, hz1, hb3, hb4, hb5, hb6, hb7]
        rw [← hRK]
        exact ⟨⟨((.slice pw t.length kw, .slice none 0 0, e), M2), hg1.trans hg2, f20, f40, f50⟩, ⟨rfl, by rw [hRt]; exact StR.nil _ 0, by rw [hRt]⟩, subH_drop (x7 _ _ _ _ rfl rfl rfl f70) (subH_drop (x6 _ _ _ _ rfl rfl rfl f60) (subH_self _))⟩
      have hz1 : (e != 0) = false := by rw [hz0]; rfl
      rw [if_pos hz0] at hRt
      simp only [push_cast, seval, reduceCtorEq, hz1, hb3, hb4, hb5, hb6, hb7]
      refine regO gU4_ok ?_
      simp only [push_cast, seval, reduceCtorEq, hb3, hb4, hb5, hb6, hb7]
      refine useB [_, _, _, _, _] (sset_ok (x := a') hw2 hl5 hwn) (SetO.rd _ _) hg2.marks ⟨f70, f60, f20, f40, f50, trivial⟩ fun w N9 M9 hg9 hf9 hL9 hw9 hm9 hq9 => ?_
      obtain ⟨w9, rfl, hst9⟩ := hq9
      obtain ⟨p9, k9, rfl⟩ : ∃ p k, w9 = .slice p (setS t a').1.length k := (hst9.r hf9).slice
      have hg19 := hg1.trans (hg2.trans hg9)
      have sw : ∀ {b}, fresh b (N9 ++ M9) → fresh b (M9 ++ N9) := fun h => fresh_appS (fresh_app_iff.1 h).2 (fresh_app_iff.1 h).1
      have hg20 : Gr M0 (M9 ++ N9) := hg19.trans ⟨hg9.marks, N9, rfl, hw9, hm9⟩
      have htn := subH_turn (N := N9) (M := M9) fun e he x hx h => freshN_iff.1 hf9 x hx e he h
      simp only [push_cast, seval, reduceCtorEq, hb3, hb4, hb5, hb6, hb7]
      refine regO gU4_ok ?_
      by_cases hz : (setS t a').2 = 0
      · have hz2 : ((setS t a').2 != 0) = false := by rw [hz]; rfl
        rw [if_pos hz] at hRt
        have hso := setS_ok.1 hz
        have hrn : RiS (setS t a').1 := by rw [setS_val hz]; exact hrt.put hso.2.1 hso.2.2
        simp only [push_cast, seval, reduceCtorEq, hz2, hb3, hb4, hb5, hb6, hb7]
        rw [← hRK]
        exact ⟨⟨((.slice p9 (setS t a').1.length k9, .slice none 0 0, 0), M9 ++ N9), hg20, sw hL9.2.2.1, sw hL9.2.2.2.1, sw hL9.2.2.2.2.1⟩, ⟨rfl, rfl, _, StR.rd _ _ _ _ (cellsAt_swap hf9) (hst9.r hf9), hrn, hRt⟩, subH_drop (x7 _ _ _ _ rfl rfl rfl (sw hL9.1)) (subH_drop (x6 _ _ _ _ rfl rfl rfl (sw hL9.2.1)) (subH_pre htn [_, _, _]))⟩
      · have hz2 : ((setS t a').2 != 0) = true := bne_iff_ne.2 hz
        rw [if_neg hz] at hRt
        obtain ⟨e9, he9⟩ : ∃ e, e = (setS t a').2 := ⟨_, rfl⟩
        rw [← he9] at hRt hz2 ⊢
        simp only [push_cast, seval, reduceCtorEq, hz2, hb3, hb4, hb5, hb6, hb7]
        rw [← hRK]
        exact ⟨⟨((.slice p9 (setS t a').1.length k9, .slice none 0 0, e9), M9 ++ N9), hg20, sw hL9.2.2.1, sw hL9.2.2.2.1, sw hL9.2.2.2.2.1⟩, ⟨rfl, by rw [hRt]; exact StR.nil _ 0, by rw [hRt]⟩, subH_drop (x7 _ _ _ _ rfl rfl rfl (sw hL9.1)) (subH_drop (x6 _ _ _ _ rfl rfl rfl (sw hL9.2.1)) (subH_pre htn [_, _, _]))⟩
  · rintro D y hfD ⟨h40, he0, t, hw, hrt, hRt⟩
    rw [List.length_map, List.drop_length] at hRt
    obtain ⟨pw, kw, hx⟩ := hw.slice
    rw [h40, he0, hx] at hfD ⊢
    have hbD : ¬ D = b2 ∧ ¬ b2 = D ∧ ¬ D = b4 ∧ ¬ b4 = D ∧ ¬ D = b5 ∧ ¬ b5 = D ∧ fresh D y.1.2 := hfD
    simp only [push_cast, seval, reduceCtorEq, hb3, hb4, hb5, hbD]
    rw [goM] at hRt
    exact doneK2 [_, _, _] y.2.1 (UndR.rd _) ⟨_, by rw [hRt], by rw [hRt]; exact hx ▸ hw⟩
  · rintro D c y hfD ⟨rfl, hw, he⟩
    obtain ⟨pw, kw, hx⟩ := hw.slice
    rw [hx] at hfD ⊢
    have hbD : ¬ D = b2 ∧ ¬ b2 = D ∧ ¬ D = b4 ∧ ¬ b4 = D ∧ ¬ D = b5 ∧ ¬ b5 = D ∧ fresh D y.1.2 := hfD
    simp only [push_cast, seval, reduceCtorEq, hb3, hb4, hb5, hbD]
    exact doneK2 [_, _, _] y.2.1 (UndR.rd _) ⟨_, by rw [he], hx ▸ hw⟩
end Go.Proofs.YtincedmdkdjakaaGreat
set_option linter.unusedSimpArgs false
set_option linter.unusedVariables false
namespace Go.Proofs.YtincedmdkdjakaaGreat
open Go Go.Ev Go.Proofs
set_option maxRecDepth 100000
set_option maxHeartbeats 4000000
def plRM11 : Plans := fun i => if i = 1 then [(0, 9)] else if i = 3 then [(0, 9)] else if i = 8 then [(0, 9)] else if i = 9 then [(0, 9)] else if i = 10 then [(0, 9)] else if i = 11 then [(0, 9)] else if i = 14 then [(0, 9)] else if i = 17 then [(0, 9)] else if i = 18 then [(0, 9)] else Tryz.pl38 i
attribute [push_cast] plRM11
theorem r11merge_R {M : Hp} {s : List Ac} {sv : Value} {x : Vi} {v : Value} (hs : StR s sv M) (hv : ViR x v M) (hb : x.Fit) (hsn : s.length ≤ 1000000000) (hss : ∀ y ∈ s, y.slots.length ≤ 2199023255551) : CallsR Tryz.prog 38 [sv, v] M (UndR (mergeV s x)) := by
  intro M0 hr he
  have hm := hr.marks
  replace hv := ViR.rd _ _ _ _ he.symm hv
  replace hs := StR.rd _ _ _ _ he.symm hs
  have hv0 := hv
  have n5 := hb.c
  obtain ⟨vb, vr, vw, vc, rfl, h1, h2, h3, h4⟩ := hv
  obtain ⟨ps, ks, rfl⟩ := hs.slice
  obtain ⟨pb, kb, rfl⟩ := h1.slice
  obtain ⟨pr, kr, rfl⟩ := LiR.slice h2
  obtain ⟨pw, kw, rfl⟩ := LiR.slice h3
  obtain ⟨pc, kc, rfl, hla⟩ := LiR.openE h4
  refine callsO gU4_ok Tryz.mix plRM11 Tryz.func38 rfl Tryz.ntmps38 Tryz.results38 rfl (by first | rfl | assumption) (Nat.le_of_ble_eq_true rfl) (by kernel_rfl) ?_
  simp only [push_cast, seval, reduceCtorEq]
  intro b3 hb3
  have f3 : fresh b3 M0 := hb3
  refine regO gU4_ok ?_
  simp only [push_cast, seval, reduceCtorEq]
  refine useP [_] (fun M1 hr1 he1 => refRightS_ok (StR.rd _ _ _ _ he1.symm hs) hr1.marks (by omega) (fun y hy => by have := hss y hy; omega)) ⟨f3, trivial⟩ ?_
  cases hrs : rightS s
  · rw [mergeV_bad fun h => by rw [rightS_iff.2 h.1] at hrs; cases hrs]
    simp only [push_cast, seval, reduceCtorEq]
    exact doneK2 [_] (.refl hm) (UndR.rd _) ⟨_, rfl, StR.nil _ 0⟩
  have hri := rightS_iff.1 hrs
  simp only [push_cast, seval, reduceCtorEq]
  refine useP [_] (r11right_R hv0 hb) ⟨f3, trivial⟩ ?_
  cases hrv : pB (RiV x)
  · rw [mergeV_bad fun h => pB_not.1 hrv h.2]
    simp only [push_cast, seval, reduceCtorEq]
    exact doneK2 [_] (.refl hm) (UndR.rd _) ⟨_, rfl, StR.nil _ 0⟩
  have hriv := pB_iff.1 hrv
  rw [mergeV_ok ⟨hri, hriv⟩]
  simp only [push_cast, seval, reduceCtorEq]
  refine regO gU4_ok ?_
  simp only [push_cast, seval, reduceCtorEq]
  refine useL [_] (refOwn_R hs hsn (fun y hy => by have := hss y hy; omega)) (StR.rd _) hm ⟨f3, trivial⟩ fun u M1 hg1 hL1 hq => ?_
  obtain ⟨qb, lb, rfl⟩ := StR.slice hq
  obtain ⟨R, hR⟩ : ∃ R, R = goM s x.cells := ⟨_, rfl⟩
  rw [← hR]
  simp only [push_cast, seval, reduceCtorEq]
  refine loopO gU4_ok (pl := plRM11) Tryz.mix (X := Nat × Value × Hp)
    (fun q => ([(3, .pointer (some ⟨b3, 0, none⟩)), (6, q.2.1), (7, .int .i64 q.1)], ⟨b3, 0, .cel 33, [.slice pb x.base.length kb, .slice pr x.reads.length kr, .slice pw x.writes.length kw, .slice pc x.cells.length kc]⟩ :: q.2.2))
    (fun q => q.1 ≤ x.cells.length ∧ Gr M0 q.2.2 ∧ fresh b3 q.2.2 ∧ ∃ t, StR t q.2.1 q.2.2 ∧ RiS t ∧ R = goM t (x.cells.drop q.1)) (fun q => x.cells.length - q.1) (0, .slice qb s.length lb, M1) ?_ ?_ (by kernel_rfl) ?_
  · exact ⟨Nat.zero_le _, hg1, hL1.1, s, hq, hri, by rw [List.drop_zero]; exact hR⟩
  · simp only [push_cast, seval, reduceCtorEq]
    try exact subH_self _
  · rintro ⟨i, w, M1⟩ ⟨hi, hg1, g3, t, hw, hrt, hRt⟩
    dsimp only at hi hg1 g3 hw hrt hRt ⊢
    have hgm := hg1.marks
    obtain ⟨pt, kt, rfl⟩ := hw.slice
    rcases Nat.lt_or_ge i x.cells.length with hlt | hge
    · obtain ⟨c, hc⟩ : ∃ c, x.cells[i]? = some c := ⟨x.cells[i], List.getElem?_eq_getElem hlt⟩
      rcases hla with hl0 | ⟨b, f', d, kd, cs, rfl, hfe, hat⟩
      · rw [hl0] at hc; simp at hc
      obtain ⟨a1, a2⟩ := hat i c hc
      have fm := hg1.find hfe
      have d3 := (fresh_findS g3 fm).2
      have i1 : (i : Int) < (x.cells.length : Int) := by omega
      have hdr : x.cells.drop i = c :: x.cells.drop (i + 1) := by rw [List.drop_eq_getElem_cons hlt, (List.getElem?_eq_some_iff.1 hc).2]
      rw [hdr, goM_cons] at hRt
      have hwn : t.length ≤ 1000000000 := by have := hrt.len; omega
      have hws : ∀ y ∈ t, y.slots.length ≤ 2199023255551 := fun y hy => by have := (mayA_slots (hrt.may y hy)).len; omega
      obtain ⟨a, ha⟩ : ∃ a, a = findS t c.key.at_ := ⟨_, rfl⟩
      have hma : a.slots.length ≤ 2199023255551 := by rw [ha]; have := (mayA_slots (hrt.findMay c.key.at_)).len; omega
      rw [← ha] at hRt
      simp only [push_cast, seval, reduceCtorEq, i1, hlt, fm, d3, a1, a2]
      intro b8 hb8
      have g8 : fresh b8 M1 := hb8.2.2
      refine regO gU4_ok ?_
      simp only [push_cast, seval, reduceCtorEq, hb8]
      refine useL [_, _] (by have := refFind_ok (a := c.key.at_) hw hwn (fun y hy => by have := hws y hy; omega); rw [← ha] at this; exact this) (AcR.rd _) hgm ⟨g8, g3, trivial⟩ fun w2 M2 hg2 hL2 hq2 => ?_
      obtain ⟨sa, rfl, hsa⟩ := hq2
      obtain ⟨pa, ka, rfl⟩ := LiR.slice hsa
      simp only [push_cast, seval, reduceCtorEq, hb8]
      intro b9 hb9
      have g9 : fresh b9 M2 := hb9.2.2.2.2
      have hw2 := hw.ext hg2.ext
      refine regO gU4_ok ?_
      cases hs : c.key.slot
      · have e : appC a c = (⟨a.at_, c.bal, c.nonce, c.code, a.slots⟩, 0) := by unfold appC; rw [if_neg (by rw [hs]; decide)]
        rw [e, if_pos rfl] at hRt
        simp only [push_cast, seval, reduceCtorEq, hb8, hb9, hs]
        refine regO gU4_ok ?_
        simp only [push_cast, seval, reduceCtorEq, hb8, hb9, Ac.setBalN, Ac.setNon, Ac.setCod]
        have q9 := g9
        have q8 := hL2.1
        have q3 := hL2.2.1
        refine regO gU4_ok ?_
        simp only [push_cast, seval, reduceCtorEq, hb8, hb9]
        refine useB [_, _, _] (refSet_ok (x := (⟨a.at_, c.bal, c.nonce, c.code, a.slots⟩ : Ac)) hw2 hsa hwn (fun y hy => by have := hws y hy; omega) (by dsimp only; omega)) (SetO.rd _ _) hg2.marks ⟨q9, q8, q3, trivial⟩ fun u N9 M9 hg9 hf9 hL9 hw9 hm9 hq9 => ?_
        obtain ⟨w9, rfl, hst9⟩ := hq9
        obtain ⟨A', hA'⟩ : ∃ A' : Ac, A' = (⟨a.at_, c.bal, c.nonce, c.code, a.slots⟩ : Ac) := ⟨_, rfl⟩
        rw [← hA'] at hst9 hRt ⊢
        obtain ⟨p9, k9, rfl⟩ : ∃ p k, w9 = .slice p (setS t A').1.length k := (hst9.r hf9).slice
        have hg19 := (hg1.trans hg2).trans hg9
        have sw : ∀ {b}, fresh b (N9 ++ M9) → fresh b (M9 ++ N9) := fun h => fresh_appS (fresh_app_iff.1 h).2 (fresh_app_iff.1 h).1
        have hg20 : Gr M0 (M9 ++ N9) := hg19.trans ⟨hg9.marks, N9, rfl, hw9, hm9⟩
        have htn := subH_turn (N := N9) (M := M9) fun e he x hx h => freshN_iff.1 hf9 x hx e he h
        simp only [push_cast, seval, reduceCtorEq, hb8, hb9]
        refine regO gU4_ok ?_
        by_cases hz : (setS t A').2 = 0
        · have hz2 : ((setS t A').2 != 0) = false := by rw [hz]; rfl
          rw [if_pos hz] at hRt
          have hso := setS_ok.1 hz
          have hrn : RiS (setS t A').1 := by rw [setS_val hz]; exact hrt.put hso.2.1 hso.2.2
          simp only [push_cast, seval, reduceCtorEq, hz2, hb8, hb9, wrap_i64' (show -9223372036854775808 ≤ (i : Int) + 1 ∧ (i : Int) + 1 ≤ 9223372036854775807 by omega)]
          refine ⟨(i + 1, .slice p9 (setS t A').1.length k9, M9 ++ N9), ⟨hlt, hg20, sw hL9.2.2.1, (setS t A').1, StR.rd _ _ _ _ (cellsAt_swap hf9) (hst9.r hf9), hrn, hRt⟩, by dsimp only; omega, ⟨rfl, rfl⟩, ?_, ?_⟩
          · exact subH_drop (sw hL9.1) (subH_drop (sw hL9.2.1) htn)
          · simp [marks_append, hm9]
        · have hz2 : ((setS t A').2 != 0) = true := bne_iff_ne.2 hz
          rw [if_neg hz] at hRt
          simp only [push_cast, seval, reduceCtorEq, hz2, hb8, hb9]
          refine newKS (N1 := []) (v := .tuple #[.slice none 0 0, .int .i64 (setS t A').2]) hg19 trivial rfl trivial (UndR.rd R) ⟨_, by rw [hRt], by rw [hRt]; exact StR.nil _ 0⟩ ?_
          have hd1 : dropM (N9 ++ M9) = N9 ++ M9 := dropM_eq (by rw [marks_append, hm9, hg9.marks]; rfl)
          have hd2 : dropM M9 = M9 := dropM_eq hg9.marks
          rw [hd1, hd2]
          exact ((((List.sublist_append_right N9 M9).cons _).cons _).cons _)
      · have e : appC a c = (⟨a.at_, a.bal, a.nonce, a.code, (mergeR a.slots [⟨c.key.key, c.val⟩]).1⟩, (mergeR a.slots [⟨c.key.key, c.val⟩]).2) := by unfold appC; rw [if_pos hs]
        rw [e] at hRt
        simp only [push_cast, seval, reduceCtorEq, hb8, hb9, hs]
        refine regO gU4_ok ?_
        simp only [push_cast, seval, reduceCtorEq, hb8, hb9, hs]
        refine useL [_, _, _] (refPut_R (k := c.key.key) (w := c.val) hsa hma) (PutQ.rd _) hg2.marks ⟨g9, hL2.1, hL2.2.1, trivial⟩ fun u M3 hg3 hL3 hq3 => ?_
        obtain ⟨wq, rfl, hwq⟩ := hq3
        obtain ⟨pq, kq, rfl⟩ := LiR.slice hwq
        obtain ⟨l, e5, hle⟩ : ∃ l e, mergeR a.slots [⟨c.key.key, c.val⟩] = (l, e) := ⟨_, _, rfl⟩
        rw [hle] at hwq hRt ⊢
        dsimp only at hwq hRt
        simp only [push_cast, seval, reduceCtorEq, hb8, hb9]
        refine regO gU4_ok ?_
        by_cases hz0 : e5 = 0
        case neg =>
          have hz1 : (e5 != 0) = true := bne_iff_ne.2 hz0
          rw [if_neg hz0] at hRt
          simp only [push_cast, seval, reduceCtorEq, hz1, hb8, hb9]
          exact doneK2 [_, _, _] ((hg1.trans hg2).trans hg3) (UndR.rd R) ⟨_, by rw [hRt], by rw [hRt]; exact StR.nil _ 0⟩
        have hz1 : (e5 != 0) = false := by rw [hz0]; rfl
        rw [if_pos hz0] at hRt
        simp only [push_cast, seval, reduceCtorEq, hz1, hb8, hb9]
        have q9 := hL3.1
        have q8 := hL3.2.1
        have q3 := hL3.2.2.1
        have hw3 := hw2.ext hg3.ext
        have hl4 : l.length ≤ 4000 := by have := mergeR_len1 a.slots [⟨c.key.key, c.val⟩]; rw [hle] at this; dsimp only at this; omega
        refine regO gU4_ok ?_
        simp only [push_cast, seval, reduceCtorEq, hb8, hb9]
        refine useB [_, _, _] (refSet_ok (x := (⟨a.at_, a.bal, a.nonce, a.code, l⟩ : Ac)) hw3 hwq hwn (fun y hy => by have := hws y hy; omega) (by dsimp only; omega)) (SetO.rd _ _) hg3.marks ⟨q9, q8, q3, trivial⟩ fun u N9 M9 hg9 hf9 hL9 hw9 hm9 hq9 => ?_
        obtain ⟨w9, rfl, hst9⟩ := hq9
        obtain ⟨A', hA'⟩ : ∃ A' : Ac, A' = (⟨a.at_, a.bal, a.nonce, a.code, l⟩ : Ac) := ⟨_, rfl⟩
        rw [← hA'] at hst9 hRt ⊢
        obtain ⟨p9, k9, rfl⟩ : ∃ p k, w9 = .slice p (setS t A').1.length k := (hst9.r hf9).slice
        have hg19 := ((hg1.trans hg2).trans hg3).trans hg9
        have sw : ∀ {b}, fresh b (N9 ++ M9) → fresh b (M9 ++ N9) := fun h => fresh_appS (fresh_app_iff.1 h).2 (fresh_app_iff.1 h).1
        have hg20 : Gr M0 (M9 ++ N9) := hg19.trans ⟨hg9.marks, N9, rfl, hw9, hm9⟩
        have htn := subH_turn (N := N9) (M := M9) fun e he x hx h => freshN_iff.1 hf9 x hx e he h
        simp only [push_cast, seval, reduceCtorEq, hb8, hb9]
        refine regO gU4_ok ?_
        by_cases hz : (setS t A').2 = 0
        · have hz2 : ((setS t A').2 != 0) = false := by rw [hz]; rfl
          rw [if_pos hz] at hRt
          have hso := setS_ok.1 hz
          have hrn : RiS (setS t A').1 := by rw [setS_val hz]; exact hrt.put hso.2.1 hso.2.2
          simp only [push_cast, seval, reduceCtorEq, hz2, hb8, hb9, wrap_i64' (show -9223372036854775808 ≤ (i : Int) + 1 ∧ (i : Int) + 1 ≤ 9223372036854775807 by omega)]
          refine ⟨(i + 1, .slice p9 (setS t A').1.length k9, M9 ++ N9), ⟨hlt, hg20, sw hL9.2.2.1, (setS t A').1, StR.rd _ _ _ _ (cellsAt_swap hf9) (hst9.r hf9), hrn, hRt⟩, by dsimp only; omega, ⟨rfl, rfl⟩, ?_, ?_⟩
          · exact subH_drop (sw hL9.1) (subH_drop (sw hL9.2.1) htn)
          · simp [marks_append, hm9]
        · have hz2 : ((setS t A').2 != 0) = true := bne_iff_ne.2 hz
          rw [if_neg hz] at hRt
          simp only [push_cast, seval, reduceCtorEq, hz2, hb8, hb9]
          refine newKS (N1 := []) (v := .tuple #[.slice none 0 0, .int .i64 (setS t A').2]) hg19 trivial rfl trivial (UndR.rd R) ⟨_, by rw [hRt], by rw [hRt]; exact StR.nil _ 0⟩ ?_
          have hd1 : dropM (N9 ++ M9) = N9 ++ M9 := dropM_eq (by rw [marks_append, hm9, hg9.marks]; rfl)
          have hd2 : dropM M9 = M9 := dropM_eq hg9.marks
          rw [hd1, hd2]
          exact ((((List.sublist_append_right N9 M9).cons _).cons _).cons _)
    · obtain rfl : i = x.cells.length := by omega
      rw [List.drop_length, goM] at hRt
      simp only [push_cast, seval, reduceCtorEq, Nat.lt_irrefl, Int.lt_irrefl]
      exact doneK2 [_] hg1 (UndR.rd _) ⟨_, by rw [hRt], by rw [hRt]; exact hw⟩
end Go.Proofs.YtincedmdkdjakaaGreat
set_option linter.unusedSimpArgs false
set_option linter.unusedVariables false
namespace Go.Ev
theorem Vi.ext {x y : Vi} (h1 : x.base = y.base) (h2 : x.reads = y.reads) (h3 : x.writes = y.writes) (h4 : x.cells = y.cells) : x = y := by
  cases x; cases y; cases h1; cases h2; cases h3; cases h4; rfl
instance : DecidableEq Vi := fun x y => if h : x.base = y.base ∧ x.reads = y.reads ∧ x.writes = y.writes ∧ x.cells = y.cells then .isTrue (Vi.ext h.1 h.2.1 h.2.2.1 h.2.2.2) else .isFalse fun e => h (by rw [e]; exact ⟨rfl, rfl, rfl, rfl⟩)
end Go.Ev
namespace Go.Proofs.YtincedmdkdjakaaGreat
open Go Go.Ev Go.Proofs
set_option maxRecDepth 100000
set_option maxHeartbeats 4000000
theorem rSame_R {M : Hp} {R W' R2 W2 : List Ky} {v u : Value} (hv : SeR R W' v M) (hu : SeR R2 W2 u M) (hn : R.length ≤ 2199023255551) (hn2 : W'.length ≤ 2199023255551) : ∀ M0, roM M0 → cellsAt M0 = cellsAt M → CallsV Tryz.prog 72 [v, u] M0 (Ret0 (.bool (decide (R = R2) && decide (W' = W2)))) :=
  fun _ hr he => rSame_ok (SeR.rd _ _ _ _ _ he.symm hv) (SeR.rd _ _ _ _ _ he.symm hu) hr.marks hn hn2
def plSV : Plans := fun i => if i = 1 then [(0, 9)] else if i = 6 then [] else Tryz.pl31 i
attribute [push_cast] plSV
theorem r11same_ok {M : Hp} {x y : Vi} {v u : Value} (hv : ViR x v M) (hu : ViR y u M) (hm : marksOf M = []) (hb : x.Fit) (hb2 : y.Fit) : CallsV Tryz.prog 31 [v, u] M (Ret0 (.bool (decide (x = y)))) := by
  obtain ⟨n1, n2, n3, n4, n5⟩ := hb
  obtain ⟨m1, m2, m3, m4, m5⟩ := hb2
  obtain ⟨vb, vr, vw, vc, rfl, h1, h2, h3, h4⟩ := hv
  obtain ⟨ub, ur, uw, uc, rfl, g1, g2, g3, g4⟩ := hu
  have hse : SeR x.reads x.writes (.agg #[vr, vw]) M := ⟨vr, vw, rfl, h2, h3⟩
  have gse : SeR y.reads y.writes (.agg #[ur, uw]) M := ⟨ur, uw, rfl, g2, g3⟩
  obtain ⟨pb, kb, rfl⟩ := h1.slice
  obtain ⟨pr, kr, rfl⟩ := LiR.slice h2
  obtain ⟨pw, kw, rfl⟩ := LiR.slice h3
  obtain ⟨pc, kc, rfl, hla⟩ := LiR.openE h4
  obtain ⟨qb, lb, rfl⟩ := g1.slice
  obtain ⟨qr, lr, rfl⟩ := LiR.slice g2
  obtain ⟨qw, lw, rfl⟩ := LiR.slice g3
  obtain ⟨qc, lc, rfl, hlb⟩ := LiR.openE g4
  refine callsO gU4_ok Tryz.mix plSV Tryz.func31 rfl Tryz.ntmps31 Tryz.results31 rfl (by first | rfl | assumption) (Nat.le_of_ble_eq_true rfl) (by kernel_rfl) ?_
  simp only [push_cast, seval, reduceCtorEq]
  intro b2 hb2 b3 hb3
  refine regO gU4_ok ?_
  simp only [push_cast, seval, reduceCtorEq, hb3]
  refine useP [_, _] (fun M1 hr1 he1 => sameS_ok (StR.rd _ _ _ _ he1.symm h1) (StR.rd _ _ _ _ he1.symm g1) hr1.marks (by omega) (by omega) (fun z hz => by have := n2 z hz; omega) (fun z hz => by have := m2 z hz; omega)) ⟨hb3.2.2, hb2, trivial⟩ ?_
  by_cases c1 : x.base = y.base
  case neg =>
    have e : decide (x = y) = false := decide_eq_false fun h => c1 (by rw [h])
    simp only [push_cast, seval, reduceCtorEq, hb3, decide_eq_false c1, e]
  simp only [push_cast, seval, reduceCtorEq, hb3, decide_eq_true c1]
  refine useP [_, _] (rSame_R hse gse (by omega) (by omega)) ⟨hb3.2.2, hb2, trivial⟩ ?_
  by_cases c2 : x.reads = y.reads
  case neg =>
    have e : decide (x = y) = false := decide_eq_false fun h => c2 (by rw [h])
    simp only [push_cast, seval, reduceCtorEq, hb3, decide_eq_false c2, Bool.false_and, e]
  by_cases c3 : x.writes = y.writes
  case neg =>
    have e : decide (x = y) = false := decide_eq_false fun h => c3 (by rw [h])
    simp only [push_cast, seval, reduceCtorEq, hb3, decide_eq_false c3, decide_eq_true c2, Bool.true_and, e]
  by_cases c4 : x.cells.length = y.cells.length
  case neg =>
    have e : decide (x = y) = false := decide_eq_false fun h => c4 (by rw [h])
    have e1 : (((x.cells.length : Nat) : Int) != ((y.cells.length : Nat) : Int)) = true := by rw [bne_iff_ne]; omega
    simp only [push_cast, seval, reduceCtorEq, hb3, decide_eq_true c3, decide_eq_true c2, Bool.true_and, e1, e]
  have e4 : (((x.cells.length : Nat) : Int) != ((y.cells.length : Nat) : Int)) = false := by rw [c4]; exact bne_self_eq_false _
  simp only [push_cast, seval, reduceCtorEq, hb3, decide_eq_true c3, decide_eq_true c2, Bool.true_and, e4]
  refine loopO gU4_ok (pl := plSV) Tryz.mix (X := Nat)
    (fun i => ([(2, .pointer (some ⟨b2, 0, none⟩)), (3, .pointer (some ⟨b3, 0, none⟩)), (5, .int .i64 i)], ⟨b3, 0, .cel 33, [.slice qb y.base.length lb, .slice qr y.reads.length lr, .slice qw y.writes.length lw, .slice qc y.cells.length lc]⟩ :: ⟨b2, 0, .cel 33, [.slice pb x.base.length kb, .slice pr x.reads.length kr, .slice pw x.writes.length kw, .slice pc x.cells.length kc]⟩ :: M))
    (fun i => i ≤ x.cells.length ∧ x.cells.take i = y.cells.take i) (fun i => x.cells.length - i) 0 ?_ ?_ (by kernel_rfl) ?_
  · exact ⟨Nat.zero_le _, rfl⟩
  · simp only [push_cast, seval, reduceCtorEq]
  · rintro i ⟨hi, ht⟩
    dsimp only at hi ht ⊢
    rcases Nat.lt_or_ge i x.cells.length with hlt | hge
    · obtain ⟨a, ha⟩ : ∃ a, x.cells[i]? = some a := ⟨x.cells[i], List.getElem?_eq_getElem hlt⟩
      obtain ⟨b, hb⟩ : ∃ b, y.cells[i]? = some b := ⟨y.cells[i]'(by omega), List.getElem?_eq_getElem (by omega)⟩
      rcases hla with h0 | ⟨ba, f, d, kd, cs, rfl, he, hat⟩
      · rw [h0] at ha; simp at ha
      rcases hlb with h0 | ⟨bb, f', d', kd', cs', rfl, he', hat'⟩
      · rw [h0] at hb; simp at hb
      obtain ⟨a1, a2⟩ := hat i a ha
      obtain ⟨b1, b2'⟩ := hat' i b hb
      have i1 : (i : Int) < (x.cells.length : Int) := by omega
      have i2 : (i : Int) < (y.cells.length : Int) := by omega
      have i3 : i < y.cells.length := by omega
      have k1 := (fresh_findS hb2 he).2
      have k2 := (fresh_findS hb3.2.2 he).2
      have k3 := (fresh_findS hb2 he').2
      have k4 := (fresh_findS hb3.2.2 he').2
      simp only [push_cast, seval, reduceCtorEq, i1, hlt, hb3]
      refine drawO gU4_ok Tryz.mix (Tryz.pl31 6) (by kernel_rfl) ?_
      by_cases hxy : a = b
      · simp only [push_cast, seval, reduceCtorEq, i1, i2, i3, hlt, he, he', a1, a2, b1, b2', hb3, k1, k2, k3, k4, decide_eq_true hxy, Bool.not_true, wrap_i64' (show -9223372036854775808 ≤ (i : Int) + 1 ∧ (i : Int) + 1 ≤ 9223372036854775807 by omega)]
        exact ⟨i + 1, ⟨hlt, by rw [List.take_add_one, List.take_add_one, ha, hb, ht, hxy]⟩, by omega, rfl⟩
      · have e : decide (x = y) = false := decide_eq_false fun h => hxy (by rw [h, hb] at ha; cases ha; rfl)
        rw [e]
        simp only [push_cast, seval, reduceCtorEq, i1, i2, i3, hlt, he, he', a1, a2, b1, b2', hb3, k1, k2, k3, k4, decide_eq_false hxy, Bool.not_false]
    · obtain rfl : i = x.cells.length := by omega
      rw [List.take_length, c4, List.take_length] at ht
      have e : decide (x = y) = true := decide_eq_true (Vi.ext c1 c2 c3 ht)
      rw [e]
      simp only [push_cast, seval, reduceCtorEq, hb3, Nat.lt_irrefl, Int.lt_irrefl]
theorem r11same_R {M : Hp} {x y : Vi} {v u : Value} (hv : ViR x v M) (hu : ViR y u M) (hb : x.Fit) (hb2 : y.Fit) : ∀ M0, roM M0 → cellsAt M0 = cellsAt M → CallsV Tryz.prog 31 [v, u] M0 (Ret0 (.bool (decide (x = y)))) :=
  fun _ hr he => r11same_ok (ViR.rd _ _ _ _ he.symm hv) (ViR.rd _ _ _ _ he.symm hu) hr.marks hb hb2
end Go.Proofs.YtincedmdkdjakaaGreat
set_option linter.unusedSimpArgs false
set_option linter.unusedVariables false
namespace Go.Ev
structure R2 where
  a : Int
  b : Int
def R2.cells (r : R2) : List Value := [.int .i64 r.a, .int .i64 r.b]
def R2.v (r : R2) : Value := .agg #[.int .i64 r.a, .int .i64 r.b]
def R2.In (r : R2) : Prop := i64In r.a ∧ i64In r.b
theorem R2.len (r : R2) : r.cells.length = 2 := rfl
noncomputable def keyA : Int → Int → Ky := hid fun a b => if pickN b 5 = 0 then ⟨addrA a, false, W.zero⟩ else ⟨addrA a, true, W.ofInt (pickN b 5 - 1 : Nat)⟩
theorem keyA_eq (a b : Int) : keyA a b = if pickN b 5 = 0 then ⟨addrA a, false, W.zero⟩ else ⟨addrA a, true, W.ofInt (pickN b 5 - 1 : Nat)⟩ := by unfold keyA; rw [hid_eq]
theorem keyA_may (a b : Int) : mayKy (keyA a b) := by
  rw [keyA_eq]
  split
  · exact .inr rfl
  · exact .inl rfl
noncomputable def keyAG : List Value → Option Value
  | [.int .i64 a, .int .i64 b] => if i64In a ∧ i64In b then some (keyA a b).v else none
  | _ => none
attribute [push_cast] keyAG
noncomputable def keysR (l : List R2) : List Ky := (l.take 15).map fun r => keyA r.a r.b
theorem keysR_len (l : List R2) : (keysR l).length ≤ 15 := by unfold keysR; rw [List.length_map, List.length_take]; omega
theorem keysR_may (l : List R2) : ∀ k ∈ keysR l, k.may = true := fun k hk => by
  obtain ⟨r, -, rfl⟩ := List.mem_map.1 hk
  exact (Ky.may_iff _).2 (keyA_may _ _)
end Go.Ev
namespace Go.Proofs.YtincedmdkdjakaaGreat
open Go Go.Ev Go.Proofs
set_option maxRecDepth 100000
set_option maxHeartbeats 4000000
theorem pickY10_ok (c n : Int) (hc : i64In c) (hn : 0 < n) (hn2 : i64In n) : CallsV Tryz.prog 50 [.int .i64 c, .int .i64 n] [] (Ret0 (.int .i64 (pickN c n))) := by
  have hn0 : ¬ n = 0 := by omega
  have h2 := pickN_lt c hn
  unfold i64In at hc hn2
  refine callsO (noG_ok _) Tryz.mix Tryz.pl50 Tryz.func50 rfl Tryz.ntmps50 Tryz.results50 rfl (by first | rfl | assumption) (Nat.le_of_ble_eq_true rfl) (by kernel_rfl) ?_
  rcases Int.lt_or_le c 0 with h | h
  · have e1 : pickN c n = (-(c + 1)).tmod n := by
      have := Int.emod_nonneg (-(c + 1)) hn0
      unfold pickN; rw [if_pos h, Int.tmod_eq_emod_of_nonneg (by omega)]; omega
    have e2 : (0 - (c + 1)) = -(c + 1) := by omega
    simp only [push_cast, seval, reduceCtorEq, h, wrap_i64' (show -9223372036854775808 ≤ c + 1 ∧ c + 1 ≤ 9223372036854775807 by omega), hn0, e2, wrap_i64' (show -9223372036854775808 ≤ -(c + 1) ∧ -(c + 1) ≤ 9223372036854775807 by omega), e1]
  · have h' : ¬ c < 0 := by omega
    have e1 : pickN c n = c.tmod n := by
      have := Int.emod_nonneg c hn0
      unfold pickN; rw [if_neg h', Int.tmod_eq_emod_of_nonneg (by omega)]; omega
    simp only [push_cast, seval, reduceCtorEq, h', hn0, e1]
theorem pickY10G_ok (args : List Value) (v : Value) (h : pickG args = some v) : CallsV Tryz.prog 50 args [] (Ret0 v) := by
  unfold pickG at h
  split at h
  · split at h
    · rename_i c n hh; cases h; exact pickY10_ok c n hh.1 hh.2.1 hh.2.2
    · cases h
  · cases h
theorem pickY11_ok (c n : Int) (hc : i64In c) (hn : 0 < n) (hn2 : i64In n) : CallsV Tryz.prog 27 [.int .i64 c, .int .i64 n] [] (Ret0 (.int .i64 (pickN c n))) := by
  have hn0 : ¬ n = 0 := by omega
  have h2 := pickN_lt c hn
  unfold i64In at hc hn2
  refine callsO (noG_ok _) Tryz.mix Tryz.pl27 Tryz.func27 rfl Tryz.ntmps27 Tryz.results27 rfl (by first | rfl | assumption) (Nat.le_of_ble_eq_true rfl) (by kernel_rfl) ?_
  rcases Int.lt_or_le c 0 with h | h
  · have e1 : pickN c n = (-(c + 1)).tmod n := by
      have := Int.emod_nonneg (-(c + 1)) hn0
      unfold pickN; rw [if_pos h, Int.tmod_eq_emod_of_nonneg (by omega)]; omega
    have e2 : (0 - (c + 1)) = -(c + 1) := by omega
    simp only [push_cast, seval, reduceCtorEq, h, wrap_i64' (show -9223372036854775808 ≤ c + 1 ∧ c + 1 ≤ 9223372036854775807 by omega), hn0, e2, wrap_i64' (show -9223372036854775808 ≤ -(c + 1) ∧ -(c + 1) ≤ 9223372036854775807 by omega), e1]
  · have h' : ¬ c < 0 := by omega
    have e1 : pickN c n = c.tmod n := by
      have := Int.emod_nonneg c hn0
      unfold pickN; rw [if_neg h', Int.tmod_eq_emod_of_nonneg (by omega)]; omega
    simp only [push_cast, seval, reduceCtorEq, h', hn0, e1]
theorem pickY11G_ok (args : List Value) (v : Value) (h : pickG args = some v) : CallsV Tryz.prog 27 args [] (Ret0 v) := by
  unfold pickG at h
  split at h
  · split at h
    · rename_i c n hh; cases h; exact pickY11_ok c n hh.1 hh.2.1 hh.2.2
    · cases h
  · cases h
noncomputable def gB0 : Gam := (addG 27 pickG (addG 50 pickG gU4))
attribute [push_cast] gB0
theorem gB0_ok : GamOk Tryz.prog gB0 := (addG_ok pickY11G_ok (addG_ok pickY10G_ok gU4_ok))
theorem lawkey_ok (a b : Int) (ha : i64In a) (hb : i64In b) : CallsV Tryz.prog 15 [.int .i64 a, .int .i64 b] [] (Ret0 (keyA a b).v) := by
  have j5 : i64In 5 := by decide
  have p5 := pickN_lt b (show (0 : Int) < 5 by decide)
  rw [keyA_eq]
  obtain ⟨x, hx⟩ : ∃ x, x = pickN b 5 := ⟨_, rfl⟩
  rw [← hx] at p5 ⊢
  refine callsO gB0_ok Tryz.mix Tryz.pl15 Tryz.func15 rfl Tryz.ntmps15 Tryz.results15 rfl (by first | rfl | assumption) (Nat.le_of_ble_eq_true rfl) (by kernel_rfl) ?_
  simp only [push_cast, seval, reduceCtorEq]
  intro b4
  rcases Nat.eq_zero_or_pos x with rfl | h0
  · simp only [push_cast, seval, reduceCtorEq, ha, hb, j5, ← hx, Ky.oF]
  · have h1 : ¬ x = 0 := by omega
    have h2 : ((x : Int) == 0) = false := beq_eq_false_iff_ne.2 (by omega)
    have h3 : (x : Int) - 1 = ((x - 1 : Nat) : Int) := by omega
    have k1 : -9223372036854775808 ≤ (x : Int) - 1 ∧ (x : Int) - 1 ≤ 9223372036854775807 := by omega
    rw [if_neg h1, ← h3]
    simp only [push_cast, seval, reduceCtorEq, ha, hb, j5, ← hx, h2, wrap_i64' k1, k1.1, k1.2, Ad.k1, Ad.k2, Ad.k3, Ad.k4, Ky.oT]
theorem keyAG_ok (args : List Value) (v : Value) (h : keyAG args = some v) : CallsV Tryz.prog 15 args [] (Ret0 v) := by
  unfold keyAG at h
  split at h
  · split at h
    · rename_i a b hh; cases h; exact lawkey_ok a b hh.1 hh.2
    · cases h
  · cases h
noncomputable def gB1 : Gam := (addG 15 keyAG gB0)
attribute [push_cast] gB1
theorem gB1_ok : GamOk Tryz.prog gB1 := (addG_ok keyAG_ok gB0_ok)
def plKeys : Plans := fun i => if i = 5 then [(0, 0), (1, 0), (2, 0), (3, 0), (4, 0), (5, 0), (6, 0), (7, 0), (8, 0), (9, 0), (10, 0), (11, 0), (12, 2), (13, 1), (14, 0)] else Tryz.pl78 i
attribute [push_cast] plKeys
theorem lawkeys_R {M : Hp} {l : List R2} {v : Value} (hl : LiR R2.cells 2 M l v) (hin : ∀ r ∈ l, r.In) : CallsR Tryz.prog 78 [v] M (KsR (keysR l)) := by
  intro M0 hr he
  have hm := hr.marks
  replace hl := hl.congr he.symm
  obtain ⟨p, k, rfl, hla⟩ := LiR.openC R2.len (by decide) hl
  refine CallsV.toK (K := OutKy (keysR l)) ?_ fun _ _ h => h.newK
  refine callsO gB1_ok Tryz.mix plKeys Tryz.func78 rfl Tryz.ntmps78 Tryz.results78 rfl (by first | rfl | assumption) (Nat.le_of_ble_eq_true rfl) (by kernel_rfl) ?_
  simp only [push_cast, seval, reduceCtorEq]
  refine loopO gB1_ok (pl := plKeys) Tryz.mix (X := Nat × Value × Hp)
    (fun s => ([(0, .slice p l.length k), (3, s.2.1), (4, .int .i64 s.1)], s.2.2 ++ M0))
    (fun s => s.1 ≤ l.length ∧ s.1 ≤ 15 ∧ OutKy (keysR (l.take s.1)) s.2.1 s.2.2 ∧ freshN s.2.2 M0) (fun s => l.length - s.1) (0, .slice none 0 0, []) ?_ ?_ (by kernel_rfl) ?_
  · exact ⟨Nat.zero_le _, Nat.zero_le _, .nil _ _, trivial⟩
  · simp only [push_cast, seval, reduceCtorEq]
    first | done | exact rfl | exact ⟨rfl, subH_self _⟩ | exact subH_self _
  · rintro ⟨i, vo, No⟩ ⟨hi, h15, ho, hf⟩
    dsimp only at hi h15 ho hf ⊢
    have htl : keysR (l.take i) = (l.take i).map fun r => keyA r.a r.b := by unfold keysR; rw [List.take_take, Nat.min_eq_right h15]
    by_cases hc : i < l.length ∧ i < 15
    · obtain ⟨hlt, hl15⟩ := hc
      obtain ⟨r, hr'⟩ : ∃ r, l[i]? = some r := ⟨l[i], List.getElem?_eq_getElem hlt⟩
      obtain ⟨ia, ib⟩ := hin r (List.mem_of_getElem? hr')
      rcases hla with hl0 | ⟨b, f, d, kd, cs, rfl, hfe, hat⟩
      · rw [hl0] at hr'; simp at hr'
      obtain ⟨a1, a2⟩ := hat i r hr'
      have a3 : List.take 1 (List.drop (d + i * 2) cs) = [.int .i64 r.a] := by
        have := congrArg (List.take 1) a2
        rwa [List.take_take] at this
      have a4 : List.take 1 (List.drop (d + i * 2 + 1) cs) = [.int .i64 r.b] := by
        have := congrArg (fun q => List.take 1 (List.drop 1 q)) a2
        rw [List.drop_take, List.take_take, List.drop_drop] at this
        exact this
      have a5 : d + i * 2 + 1 ≤ cs.length := by omega
      have a6 : d + i * 2 + 1 + 1 ≤ cs.length := by omega
      have hee := find_behind hf b _ hfe
      have i1 : (i : Int) < (l.length : Int) := by omega
      have i2 : (i : Int) < 15 := by omega
      have hs1 : keysR (l.take (i + 1)) = keysR (l.take i) ++ [keyA r.a r.b] := by
        rw [htl]
        unfold keysR
        rw [List.take_take, Nat.min_eq_right (by omega), List.take_add_one, hr', List.map_append]; rfl
      obtain ⟨po, ko, rfl⟩ := ho.slice
      have hle : (keysR (l.take i)).length ≤ 15 := keysR_len _
      simp only [push_cast, seval, reduceCtorEq, i1, i2, hlt, hl15, hee, a3, a4, a5, a6, ia, ib]
      intro b15 hb15
      refine ⟨?_, ?_⟩
      · simp only [push_cast, seval, reduceCtorEq, hb15]
        try exact subH_self _
      have f15 := fresh_app_iff.1 hb15
      refine push_outA (c := Ky.cells) (x := keyA r.a r.b) (by_ := 56) (q := 25) (ag := true) [] ho ⟨f15.1, trivial⟩ (by simp only [push_cast, seval, reduceCtorEq]) (by simp only [push_cast, seval, reduceCtorEq]) (Ky.len _) (Ky.all1 _) (by unfold two47; omega) fun v' N' ho' hf' => ?_
      simp only [push_cast, seval, reduceCtorEq, wrap_i64' (show -9223372036854775808 ≤ (i : Int) + 1 ∧ (i : Int) + 1 ≤ 9223372036854775807 by omega), List.nil_append]
      exact ⟨(i + 1, v', N'), ⟨hlt, by dsimp only; omega, by dsimp only; rw [hs1]; exact ho', freshN_cons hf'⟩, by dsimp only; omega, ⟨rfl, rfl⟩, subH_pre (subH_cons f15.2) N', by simp only [marks_append, marksOf, ho.wr.2, ho'.wr.2]⟩
    · have hfin : keysR (l.take i) = keysR l := by
        rw [htl]
        unfold keysR
        rcases Nat.lt_or_ge i 15 with h | h
        · obtain rfl : i = l.length := by omega
          rw [List.take_length, List.take_of_length_le (by omega)]
        · obtain rfl : i = 15 := by omega
          rfl
      rw [hfin] at ho
      have hz : ∃ H', H'.Sublist (dropM (No ++ M0)) ∧ OutKy (keysR l) vo H' := ⟨No, by rw [dropM_eq (by rw [marks_append, ho.wr.2, hm]; rfl)]; exact List.sublist_append_left _ _, ho⟩
      by_cases hlt : i < l.length
      · have i1 : (i : Int) < (l.length : Int) := by omega
        have i2 : ¬ (i : Int) < 15 := by omega
        have i3 : ¬ i < 15 := by omega
        simp only [push_cast, seval, reduceCtorEq, i1, i2, hlt, i3]
        exact hz
      · have i1 : ¬ (i : Int) < (l.length : Int) := by omega
        simp only [push_cast, seval, reduceCtorEq, i1, hlt]
        exact hz
theorem lawsets_R {M : Hp} {l m : List R2} {v u : Value} (hl : LiR R2.cells 2 M l v) (hu : LiR R2.cells 2 M m u) (hin : ∀ r ∈ l, r.In) (hin2 : ∀ r ∈ m, r.In) : CallsR Tryz.prog 42 [v, u] M (SeR (setK (keysR l)) (setK (keysR m))) := by
  intro M0 hr he
  have hm := hr.marks
  replace hl := hl.congr he.symm
  replace hu := hu.congr he.symm
  have l1 := keysR_len l
  have l2 := keysR_len m
  refine callsO gB1_ok Tryz.mix (fun i => if i = 1 then [(0, 9)] else Tryz.pl42 i) Tryz.func42 rfl Tryz.ntmps42 Tryz.results42 rfl (by first | rfl | assumption) (Nat.le_of_ble_eq_true rfl) (by kernel_rfl) ?_
  simp only [push_cast, seval, reduceCtorEq]
  intro b4 hb4
  refine regO gB1_ok ?_
  simp only [push_cast, seval, reduceCtorEq]
  refine useL [_] (lawkeys_R hl hin) (LiR.rd _) hm ⟨hb4, trivial⟩ fun w M1 hg1 hL1 hq1 => ?_
  obtain ⟨p1, k1, rfl⟩ := LiR.slice hq1
  simp only [push_cast, seval, reduceCtorEq]
  refine useL [_] (lawkeys_R (hu.ext hg1.ext) hin2) (LiR.rd _) hg1.marks hL1 fun w2 M2 hg2 hL2 hq2 => ?_
  obtain ⟨p2, k2, rfl⟩ := LiR.slice hq2
  simp only [push_cast, seval, reduceCtorEq]
  refine useL [_] (rmake_R (hq1.ext hg2.ext) hq2 (by omega) (by omega) (keysR_may l) (keysR_may m)) (MadeQ.rd _ _ _) hg2.marks hL2 fun w3 M3 hg3 hL3 hq3 => ?_
  obtain ⟨y, rfl, hy⟩ := hq3
  obtain ⟨vr, vw, rfl, h1, h2⟩ := hy
  have h1' := h1
  have h2' := h2
  obtain ⟨p3, k3, rfl⟩ := LiR.slice h1'
  obtain ⟨p4, k4, rfl⟩ := LiR.slice h2'
  simp only [push_cast, seval, reduceCtorEq]
  intro b5 hb5
  simp only [push_cast, seval, reduceCtorEq, hb5]
  exact doneK2 [_, _] ((hg1.trans hg2).trans hg3) (SeR.rd _ _) ⟨_, _, rfl, h1, h2⟩
end Go.Proofs.YtincedmdkdjakaaGreat
