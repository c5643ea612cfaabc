/- Texts of this claim, merged by program: Uv Uw Ux Uy. -/
import Derived.Test.YtincedmdkdjakaaGreatZvAp
set_option linter.unusedSimpArgs false
set_option linter.unusedVariables false
namespace Go.Ev
theorem newKS {M M1 N1 A : Hp} {Q : Value → Hp → Prop} {v : Value} (hg : Gr M M1) (hw : allWr N1) (hm1 : marksOf N1 = []) (hf : freshN N1 M1) (hQ : RdOnly Q) (hq : Q v (N1 ++ M1)) (hs : (N1 ++ dropM M1).Sublist A) : ∃ H', H'.Sublist A ∧ NewK M Q v H' := by
  have hgm := hg.marks
  obtain ⟨h1, N2, rfl, h2, h3⟩ := hg
  rw [dropM_eq hgm] at hs
  refine ⟨N1 ++ N2, ((List.Sublist.refl N1).append (List.sublist_append_right M N2)).trans hs, allWr_app hw h2, by rw [marks_append, hm1, h3]; rfl, fun hf' => hQ v _ _ ?_ hq⟩
  rw [List.append_assoc]
  exact cellsAt_appR (cellsAt_swap (freshN_appL.1 hf').2).symm
noncomputable def stepC (c : Ce) (s : List Ce × Bool) (x : Ce) : List Ce × Bool :=
  if ordY c.key x.key < 0 then ((if s.2 then s.1 else s.1 ++ [c]) ++ [x], true) else if ordY c.key x.key = 0 then ((if s.2 then s.1 else s.1 ++ [c]), true) else (s.1 ++ [x], s.2)
noncomputable def foldC (c : Ce) (l : List Ce) : List Ce × Bool := l.foldl (stepC c) ([], false)
def finC (c : Ce) (s : List Ce × Bool) : List Ce := if s.2 then s.1 else s.1 ++ [c]
theorem foldC_take {c : Ce} {l : List Ce} {i : Nat} {x : Ce} (h : l[i]? = some x) : foldC c (l.take (i + 1)) = stepC c (foldC c (l.take i)) x := by
  obtain ⟨hi, hx⟩ := List.getElem?_eq_some_iff.1 h
  unfold foldC
  rw [List.take_succ_eq_append_getElem hi, List.foldl_append, hx]; rfl
theorem stepC_len (c : Ce) (s : List Ce × Bool) (x : Ce) : (stepC c s x).1.length + (if (stepC c s x).2 then 0 else 1) ≤ s.1.length + (if s.2 then 0 else 1) + 1 := by
  unfold stepC
  split
  · cases s.2 <;> simp <;> omega
  · split
    · cases s.2 <;> simp
    · simp; omega
theorem foldC_len (c : Ce) : ∀ (l : List Ce) (s : List Ce × Bool), (l.foldl (stepC c) s).1.length + (if (l.foldl (stepC c) s).2 then 0 else 1) ≤ s.1.length + (if s.2 then 0 else 1) + l.length
  | [], s => Nat.le_refl _
  | x :: r, s => by
    have h1 := foldC_len c r (stepC c s x)
    have h2 := stepC_len c s x
    rw [List.foldl_cons, List.length_cons]
    omega
theorem foldC_le (c : Ce) (l : List Ce) : (foldC c l).1.length ≤ l.length + 1 := by
  have := foldC_len c l ([], false)
  unfold foldC
  simp at this
  omega
theorem foldC_true {c : Ce} : ∀ {l q : List Ce}, (∀ x ∈ l, c.key.lt x.key) → l.foldl (stepC c) (q, true) = (q ++ l, true)
  | [], q, _ => by simp
  | x :: r, q, h => by
    have hx := h x (List.mem_cons_self ..)
    rw [List.foldl_cons, show stepC c (q, true) x = (q ++ [x], true) by unfold stepC; rw [if_pos (ordY_neg.2 hx)]; rfl, foldC_true fun y hy => h y (List.mem_cons_of_mem _ hy), List.append_assoc]; rfl
theorem foldC_ins {c : Ce} : ∀ {l q : List Ce}, (l.Pairwise fun x y => x.key.lt y.key) → finC c (l.foldl (stepC c) (q, false)) = q ++ insC c l
  | [], q, _ => rfl
  | x :: r, q, h => by
    obtain ⟨h1, h2⟩ := List.pairwise_cons.1 h
    rw [List.foldl_cons]
    unfold insC
    rcases Ky.tri c.key x.key with h3 | h3 | h3
    · rw [show stepC c (q, false) x = (q ++ [c] ++ [x], true) by unfold stepC; rw [if_pos (ordY_neg.2 h3)]; rfl, foldC_true fun y hy => Ky.lt_trans h3 (h1 y hy), if_pos h3]
      unfold finC
      simp
    · have h4 : ordY c.key x.key = 0 := ordY_zero.2 h3
      rw [show stepC c (q, false) x = (q ++ [c], true) by unfold stepC; rw [if_neg (by rw [h4]; decide), if_pos h4]; rfl, foldC_true fun y hy => (by rw [h3]; exact h1 y hy), if_neg (by rw [h3]; exact x.key.lt_irr), if_pos h3.symm]
      unfold finC
      simp
    · have h4 : 0 < ordY c.key x.key := ordY_pos.2 h3
      rw [show stepC c (q, false) x = (q ++ [x], false) by unfold stepC; rw [if_neg (by omega), if_neg (by omega)], foldC_ins h2, if_neg (fun h => Ky.lt_asymm h h3), if_neg (Ky.lt_ne h3)]
      simp
theorem foldC_fin {c : Ce} {l : List Ce} (h : l.Pairwise fun x y => x.key.lt y.key) : finC c (foldC c l) = insC c l := by
  unfold foldC
  rw [foldC_ins h, List.nil_append]
end Go.Ev
namespace Go.Proofs.YtincedmdkdjakaaGreat
open Go Go.Ev Go.Proofs
set_option maxRecDepth 100000
set_option maxHeartbeats 4000000
def plPutC : Plans := fun i => if i = 1 then [(0, 9)] else if i = 3 then [(0, 9)] else if i = 5 then [(0, 9)] else if i = 6 then [(0, 9)] else if i = 11 then [] else if i = 12 then [(0, 9)] else if i = 15 then [(0, 9)] else if i = 16 then [(0, 0), (1, 0), (2, 0), (3, 0), (4, 0), (5, 0), (6, 0), (7, 2), (8, 1), (9, 0), (10, 1)] else if i = 18 then [(0, 9)] else Tryz.pl75 i
attribute [push_cast] plPutC
attribute [-push_cast] evAppend_nil evAppend_some slAddr
abbrev OutCe (l : List Ce) (v : Value) (N : Hp) : Prop := OutC 74 35 (l.flatMap Ce.cells) l.length v N
theorem pushC {q : List Ce} {z : Ce} {w : Value} {N X : Hp} {b15 : Nat} {K : Value → Hp → Prop} (A : Hp) (ho : OutCe q w N) (hA : freshN (⟨b15, 0, .vec 74 35 1, z.cells⟩ :: A) N) (hn : q.length ≤ 2000000000)
    (hk : ∀ bn cn, q.length + 1 ≤ cn → OutCe (q ++ [z]) (.slice (some ⟨bn, 0, none⟩) (q.length + 1) cn) [⟨bn, 0, .vec 74 35 cn, (q ++ [z]).flatMap Ce.cells⟩] → fresh bn (⟨b15, 0, .vec 74 35 1, z.cells⟩ :: (A ++ X)) →
      K (.slice (some ⟨bn, 0, none⟩) (q.length + 1) cn) (⟨bn, 0, .vec 74 35 cn, (q ++ [z]).flatMap Ce.cells⟩ :: ⟨b15, 0, .vec 74 35 1, z.cells⟩ :: (A ++ X))) :
    evAppend Tryz.prog (⟨b15, 0, .vec 74 35 1, z.cells⟩ :: (A ++ (N ++ X))) 31 31 w (.slice (some ⟨b15, 0, none⟩) 1 1) K := by
  have hsl : slI Tryz.prog 31 = some (74, 35, 144) := by simp only [push_cast, seval, reduceCtorEq]
  have hel : elemI Tryz.prog 31 = some (none, 35, true) := by simp only [push_cast, seval, reduceCtorEq]
  refine push_outA (c := Ce.cells) (x := z) A ho hA hsl hel z.len z.all1 (by unfold two47; omega) fun v' N' ho' hf' => ?_
  have hl : (q ++ [z]).length = q.length + 1 := by rw [List.length_append]; rfl
  have ho2 := ho'
  rcases ho' with ⟨h0, -⟩ | ⟨bn, cn, h0, rfl, hcn, hln, rfl⟩
  · omega
  · have := hk bn cn (by omega) (by rw [hl] at ho2; unfold OutCe; rw [hl]; exact ho2) hf'.1
    rw [hl]
    exact this
theorem r11put_R {M : Hp} {x : Vi} {v : Value} {c : Ce} (hv : ViR x v M) (hb : x.Fit) : CallsR Tryz.prog 75 [v, c.v] M (VeR (putV x c)) := by
  intro M0 hr he
  have hm := hr.marks
  replace hv := ViR.rd _ _ _ _ he.symm hv
  have hv0 := hv
  obtain ⟨vb, vr, vw, vc, rfl, h1, h2, h3, h4⟩ := hv
  have hse : SeR x.reads x.writes (.agg #[vr, vw]) M0 := ⟨vr, vw, rfl, h2, h3⟩
  obtain ⟨pb, kb, rfl⟩ := h1.slice
  obtain ⟨pr, kr, rfl⟩ := LiR.slice h2
  obtain ⟨pw, kw, rfl⟩ := LiR.slice h3
  obtain ⟨pc, kc, rfl, hla⟩ := LiR.openE h4
  have hb0 := hb
  obtain ⟨n1, n2, n3, n4, n5⟩ := hb
  refine callsO gU4_ok Tryz.mix plPutC Tryz.func75 rfl Tryz.ntmps75 Tryz.results75 rfl (by first | rfl | assumption) (Nat.le_of_ble_eq_true rfl) (by kernel_rfl) ?_
  simp only [push_cast, seval, reduceCtorEq]
  intro b2 hb2 b3 hb3 b4 hb4
  have f2 : fresh b2 M0 := hb2
  have f3 : fresh b3 M0 := hb3.2.2
  have f4 : fresh b4 M0 := hb4.2.2.2.2
  refine regO gU4_ok ?_
  simp only [push_cast, seval, reduceCtorEq, hb3, hb4]
  refine useP [_, _, _] (r11right_R hv0 hb0) ⟨f4, f3, f2, trivial⟩ ?_
  have own : ∀ {e : Int}, putV x c = (x, e) → ∀ (e4 e3 e2 : Ent) {K' : Value → Hp → Prop}, e4.blk = b4 → e3.blk = b3 → e2.blk = b2 →
      (∀ qb lb qr lr qw lw qc lc M1, Gr M0 M1 → VeR (putV x c) (.tuple #[.agg #[.slice qb x.base.length lb, .slice qr x.reads.length lr, .slice qw x.writes.length lw, .slice qc x.cells.length lc], .int .i64 e]) M1 → K' (.agg #[.slice qb x.base.length lb, .slice qr x.reads.length lr, .slice qw x.writes.length lw, .slice qc x.cells.length lc]) ([e4, e3, e2] ++ M1)) →
      CallsV Tryz.prog 64 [.agg #[.slice pb x.base.length kb, .slice pr x.reads.length kr, .slice pw x.writes.length kw, .slice pc x.cells.length kc]] ([e4, e3, e2] ++ M0) K' := fun {e} hp e4 e3 e2 {K'} h4 h3 h2 hk => by
    refine useL [e4, e3, e2] (r11own_R hv0 hb0) (ViR.rd _) hm ⟨h4 ▸ f4, h3 ▸ f3, h2 ▸ f2, trivial⟩ fun u M1 hg hL hq => ?_
    have hq0 := hq
    obtain ⟨ub, ur, uw, uc, rfl, g1, g2, g3, g4⟩ := hq
    obtain ⟨qb, lb, rfl⟩ := StR.slice g1
    obtain ⟨qr, lr, rfl⟩ := LiR.slice g2
    obtain ⟨qw, lw, rfl⟩ := LiR.slice g3
    obtain ⟨qc, lc, rfl⟩ := LiR.slice g4
    exact hk _ _ _ _ _ _ _ _ M1 hg (by rw [hp]; exact ⟨_, rfl, hq0⟩)
  cases hri : pB (RiV x)
  · have hp := putV_bad (x := x) (c := c) (fun h => pB_not.1 hri h.1)
    simp only [push_cast, seval, reduceCtorEq, hb3, hb4]
    refine own hp _ _ _ rfl rfl rfl fun qb lb qr lr qw lw qc lc M1 hg hq => ?_
    simp only [push_cast, seval, reduceCtorEq, hb3, hb4]
    exact doneK2 [_, _, _] hg (VeR.rd _) hq
  have hrv := pB_iff.1 hri
  obtain ⟨my, hmy⟩ : ∃ q, mayCB c = q := ⟨_, rfl⟩
  cases my
  · have hp := putV_bad (x := x) (c := c) (fun h => pB_not.1 hmy h.2)
    simp only [push_cast, seval, reduceCtorEq, hb3, hb4, hmy]
    refine own hp _ _ _ rfl rfl rfl fun qb lb qr lr qw lw qc lc M1 hg hq => ?_
    simp only [push_cast, seval, reduceCtorEq, hb3, hb4]
    exact doneK2 [_, _, _] hg (VeR.rd _) hq
  have hmc : RiV x ∧ mayC c := ⟨hrv, pB_iff.1 hmy⟩
  simp only [push_cast, seval, reduceCtorEq, hb3, hb4, hmy]
  refine regO gU4_ok ?_
  simp only [push_cast, seval, reduceCtorEq, hb3, hb4]
  refine useP [_, _, _] (rmay_R (w := true) hse (by omega) (by omega)) ⟨f4, f3, f2, trivial⟩ ?_
  rw [mayB_w]
  by_cases hw2 : c.key ∈ x.writes
  case neg =>
    have hp := putV_not hmc hw2
    simp only [push_cast, seval, reduceCtorEq, hb3, hb4, decide_eq_false hw2]
    refine own hp _ _ _ rfl rfl rfl fun qb lb qr lr qw lw qc lc M1 hg hq => ?_
    simp only [push_cast, seval, reduceCtorEq, hb3, hb4]
    exact doneK2 [_, _, _] hg (VeR.rd _) hq
  rw [putV_ok hmc hw2, ← foldC_fin hrv.srt]
  simp only [push_cast, seval, reduceCtorEq, hb3, hb4, decide_eq_true hw2]
  refine regO gU4_ok ?_
  simp only [push_cast, seval, reduceCtorEq, hb3, hb4]
  refine useL [_, _, _] (r11own_R hv0 hb0) (ViR.rd _) hm ⟨f4, f3, f2, trivial⟩ fun u M1 hg1 hL1 hq => ?_
  obtain ⟨ub, ur, uw, uc, rfl, g1, g2, g3, g4⟩ := hq
  obtain ⟨qb, lb, rfl⟩ := StR.slice g1
  obtain ⟨qr, lr, rfl⟩ := LiR.slice g2
  obtain ⟨qw, lw, rfl⟩ := LiR.slice g3
  obtain ⟨qc, lc, rfl⟩ := LiR.slice g4
  simp only [push_cast, seval, reduceCtorEq, hb3, hb4]
  intro b6 hb6
  have f6 : fresh b6 M1 := hb6.2.2.2.2.2.2
  refine regO gU4_ok ?_
  simp only [push_cast, seval, reduceCtorEq, hb3, hb4, hb6]
  refine loopO gU4_ok (pl := plPutC) Tryz.mix (X := Nat × Value × Hp)
    (fun s => ([(2, .pointer (some ⟨b2, 0, none⟩)), (3, .pointer (some ⟨b3, 0, none⟩)), (4, .pointer (some ⟨b4, 0, none⟩)), (6, .pointer (some ⟨b6, 0, none⟩)), (7, .bool (foldC c (x.cells.take s.1)).2), (8, .int .i64 s.1)], ⟨b6, 0, .cel 33, [.slice qb x.base.length lb, .slice qr x.reads.length lr, .slice qw x.writes.length lw, s.2.1]⟩ :: ⟨b4, 0, .cel 33, [.slice none 0 0, .slice none 0 0, .slice none 0 0, .slice none 0 0]⟩ :: ⟨b3, 0, .cel 74, c.cells⟩ :: ⟨b2, 0, .cel 33, [.slice pb x.base.length kb, .slice pr x.reads.length kr, .slice pw x.writes.length kw, .slice pc x.cells.length kc]⟩ :: (s.2.2 ++ M1)))
    (fun s => s.1 ≤ x.cells.length ∧ OutCe (foldC c (x.cells.take s.1)).1 s.2.1 s.2.2 ∧ freshN s.2.2 M1 ∧ fresh b6 (s.2.2 ++ M1) ∧ fresh b4 (s.2.2 ++ M1) ∧ fresh b3 (s.2.2 ++ M1) ∧ fresh b2 (s.2.2 ++ M1)) (fun s => x.cells.length - s.1) (0, .slice none 0 0, []) ?_ ?_ (by kernel_rfl) ?_
  · exact ⟨Nat.zero_le _, .nil _ _, trivial, f6, hL1.1, hL1.2.1, hL1.2.2.1⟩
  · simp only [push_cast, seval, reduceCtorEq, List.take_zero, List.append_eq, List.nil_append]
    first | done | exact rfl | exact ⟨rfl, subH_self _⟩ | exact subH_self _
  · rintro ⟨i, vo, No⟩ ⟨hi, ho, hf, r6, r4, r3, r2⟩
    dsimp only at hi ho hf r6 r4 r3 r2 ⊢
    obtain ⟨po, ko, rfl⟩ := ho.slice
    have hle := foldC_le c (x.cells.take i)
    rcases Nat.lt_or_ge i x.cells.length with hlt | hge
    · obtain ⟨y, hy⟩ : ∃ y, x.cells[i]? = some y := ⟨x.cells[i], List.getElem?_eq_getElem hlt⟩
      rcases hla with hl0 | ⟨b, f', d, kd, cs, rfl, hfe, hat⟩
      · rw [hl0] at hy; simp at hy
      obtain ⟨a1, a2⟩ := hat i y hy
      have fl0 := find_behind hf b _ (hg1.find hfe)
      have i1 : (i : Int) < (x.cells.length : Int) := by omega
      have e6 := (fresh_findS r6 fl0).2
      have e4 := (fresh_findS r4 fl0).2
      have e3 := (fresh_findS r3 fl0).2
      have e2 := (fresh_findS r2 fl0).2
      have a3 : d + i * 35 + 25 ≤ cs.length := by omega
      have a4 : List.take 25 (List.drop (d + i * 35) cs) = y.key.cells := by
        have := congrArg (List.take 25) a2
        rw [y.take25, List.take_take] at this
        exact this
      have hst := foldC_take (c := c) hy
      have hlk : (x.cells.take i).length ≤ 1000000000 := by rw [List.length_take]; omega
      simp only [push_cast, seval, reduceCtorEq, hb3, hb4, hb6, i1, hlt, fl0, e6, e4, e3, e2, a3, a4]
      refine drawO gU4_ok Tryz.mix (Tryz.pl75 11) (by kernel_rfl) ?_
      obtain ⟨n, hn⟩ : ∃ n, n = ordY c.key y.key := ⟨_, rfl⟩
      unfold stepC at hst
      rw [← hn] at hst
      simp only [push_cast, seval, reduceCtorEq, hb3, hb4, hb6, i1, hlt, fl0, e6, e4, e3, e2, a3, a4, ← hn]
      refine regO gU4_ok ?_
      have g0 : ∀ b15, fresh b15 (No ++ M1) → ∀ e15 e6 e4 e3 e2 : Ent, e15.blk = b15 → e6.blk = b6 → e4.blk = b4 → e3.blk = b3 → e2.blk = b2 → freshN [e15, e6, e4, e3, e2] No := fun b15 h15 e15 e6 e4 e3 e2 q15 q6 q4 q3 q2 => ⟨q15 ▸ (fresh_app_iff.1 h15).1, q6 ▸ (fresh_app_iff.1 r6).1, q4 ▸ (fresh_app_iff.1 r4).1, q3 ▸ (fresh_app_iff.1 r3).1, q2 ▸ (fresh_app_iff.1 r2).1, trivial⟩
      have m6 := (fresh_app_iff.1 r6).2
      have m4 := (fresh_app_iff.1 r4).2
      have m3 := (fresh_app_iff.1 r3).2
      have m2 := (fresh_app_iff.1 r2).2
      have d6 := (fresh_findS m6 (hg1.find hfe)).2
      have d4 := (fresh_findS m4 (hg1.find hfe)).2
      have d3 := (fresh_findS m3 (hg1.find hfe)).2
      have d2 := (fresh_findS m2 (hg1.find hfe)).2
      have fm := hg1.find hfe
      rcases Int.lt_trichotomy n 0 with h | h | h
      · rw [if_pos h] at hst
        have k1 : n ≤ 0 := by omega
        have k2 : (n != 0) = true := bne_iff_ne.2 (by omega)
        cases hd : (foldC c (x.cells.take i)).2
        · rw [hd] at hst
          simp only [push_cast, seval, reduceCtorEq, hb3, hb4, hb6, k1, hd]
          intro b15 hb15
          refine pushC (z := c) [_, _, _, _] ho (g0 b15 hb15.2.2.2.2.2.2.2.2 _ _ _ _ _ rfl rfl rfl rfl rfl) (by omega) fun bn cn hcn ho' hfn => ?_
          have hq := hfn
          simp only [push_cast, seval, reduceCtorEq] at hq
          have f15 := (fresh_app_iff.1 hb15.2.2.2.2.2.2.2.2).2
          have n15 := (fresh_findS f15 fm).2
          have nbn := (fresh_findS hq.2.2.2.2.2.2.2.2.2.2 fm).2
          simp only [push_cast, seval, reduceCtorEq, hb3, hb4, hb6, k1, k2, hd, hq, hb15]
          refine regO gU4_ok ?_
          simp only [push_cast, seval, reduceCtorEq, hb3, hb4, hb6, k1, k2, hd, hq, hb15, hlt, i1, fm, d6, d4, d3, d2, n15, nbn, a1, a2]
          intro b16 hb16
          refine ⟨?_, ?_⟩
          · simp only [push_cast, seval, reduceCtorEq, hb16]
          refine pushC (z := y) [] (q := (foldC c (x.cells.take i)).1 ++ [c]) (N := [_]) ho' ⟨⟨hb16.1, hb16.2.1, trivial⟩, trivial⟩ (by rw [List.length_append, List.length_singleton]; omega) fun bm cm hcm ho2 hfm => ?_
          have hq2 := hfm
          simp only [push_cast, seval, reduceCtorEq, List.nil_append] at hq2
          have f16 : fresh b16 M1 := hb16.2.2.2.2.2.2.2.2.2.2.2.2
          have hl2 : ((foldC c (x.cells.take i)).1 ++ [c]).length = (foldC c (x.cells.take i)).1.length + 1 := by rw [List.length_append]; rfl
          rw [hl2, List.append_assoc, List.singleton_append] at ho2
          simp only [push_cast, seval, reduceCtorEq, hb3, hb4, hb6, k1, k2, hd, hq, hb15, hb16, hq2, wrap_i64' (show -9223372036854775808 ≤ (i : Int) + 1 ∧ (i : Int) + 1 ≤ 9223372036854775807 by omega)]
          have e5 : foldC c (x.cells.take (i + 1)) = ((foldC c (x.cells.take i)).1 ++ [c, y], true) := by
            rw [hst, ← List.singleton_append (l := [y]), ← List.append_assoc]; rfl
          refine ⟨(i + 1, .slice (some ⟨bm, 0, none⟩) ((foldC c (x.cells.take i)).1.length + 1 + 1) cm, [⟨bm, 0, .vec 74 35 cm, ((foldC c (x.cells.take i)).1 ++ [c, y]).flatMap Ce.cells⟩]), ⟨hlt, by dsimp only; rw [e5]; exact ho2, ⟨hq2.2.2.2.2.2.2.2.2.2.2.2.2, trivial⟩, ⟨hq2.2.2.2.2.2.1, hq2.2.2.2.2.1, m6⟩, ⟨hq2.2.2.2.2.2.2.2.1, hq2.2.2.2.2.2.2.1, m4⟩, ⟨hq2.2.2.2.2.2.2.2.2.2.1, hq2.2.2.2.2.2.2.2.2.1, m3⟩, ⟨hq2.2.2.2.2.2.2.2.2.2.2.2.1, hq2.2.2.2.2.2.2.2.2.2.2.1, m2⟩⟩, by dsimp only; omega, ⟨by rw [e5], rfl⟩, ⟨rfl, subH_pre (subH_drop f16 (subH_cons f15)) [_]⟩, rfl⟩
        · rw [hd] at hst
          simp only [push_cast, seval, reduceCtorEq, hb3, hb4, hb6, k1, hd]
          refine regO gU4_ok ?_
          simp only [push_cast, seval, reduceCtorEq, hb3, hb4, hb6, k1, k2, hd, hlt, i1, fl0, fm, e6, e4, e3, e2, a1, a2]
          intro b15 hb15
          refine ⟨?_, ?_⟩
          · simp only [push_cast, seval, reduceCtorEq, hb15]
            try exact subH_self _
          refine pushC (z := y) [_, _, _, _] ho (g0 b15 hb15.2.2.2.2.2.2.2.2 _ _ _ _ _ rfl rfl rfl rfl rfl) (by omega) fun bn cn hcn ho' hfn => ?_
          have hq := hfn
          simp only [push_cast, seval, reduceCtorEq] at hq
          have f15 := (fresh_app_iff.1 hb15.2.2.2.2.2.2.2.2).2
          simp only [push_cast, seval, reduceCtorEq, hb3, hb4, hb6, k1, k2, hd, hq, hb15, wrap_i64' (show -9223372036854775808 ≤ (i : Int) + 1 ∧ (i : Int) + 1 ≤ 9223372036854775807 by omega)]
          have e5 : foldC c (x.cells.take (i + 1)) = ((foldC c (x.cells.take i)).1 ++ [y], true) := by rw [hst]; rfl
          refine ⟨(i + 1, .slice (some ⟨bn, 0, none⟩) ((foldC c (x.cells.take i)).1.length + 1) cn, [⟨bn, 0, .vec 74 35 cn, ((foldC c (x.cells.take i)).1 ++ [y]).flatMap Ce.cells⟩]), ⟨hlt, by dsimp only; rw [e5]; exact ho', ⟨hq.2.2.2.2.2.2.2.2.2.2, trivial⟩, ⟨hq.2.2.2.1, hq.2.2.1, m6⟩, ⟨hq.2.2.2.2.2.1, hq.2.2.2.2.1, m4⟩, ⟨hq.2.2.2.2.2.2.2.1, hq.2.2.2.2.2.2.1, m3⟩, ⟨hq.2.2.2.2.2.2.2.2.2.1, hq.2.2.2.2.2.2.2.2.1, m2⟩⟩, by dsimp only; omega, ⟨by rw [e5], rfl⟩, ⟨rfl, subH_pre (subH_cons f15) [_]⟩, rfl⟩
      · rw [if_neg (by omega), if_pos h] at hst
        have k1 : n ≤ 0 := by omega
        have k2 : (n != 0) = false := by rw [h]; rfl
        cases hd : (foldC c (x.cells.take i)).2
        · rw [hd] at hst
          simp only [push_cast, seval, reduceCtorEq, hb3, hb4, hb6, k1, hd]
          intro b15 hb15
          refine pushC (z := c) [_, _, _, _] ho (g0 b15 hb15.2.2.2.2.2.2.2.2 _ _ _ _ _ rfl rfl rfl rfl rfl) (by omega) fun bn cn hcn ho' hfn => ?_
          have hq := hfn
          simp only [push_cast, seval, reduceCtorEq] at hq
          have f15 := (fresh_app_iff.1 hb15.2.2.2.2.2.2.2.2).2
          have n15 := (fresh_findS f15 fm).2
          have nbn := (fresh_findS hq.2.2.2.2.2.2.2.2.2.2 fm).2
          simp only [push_cast, seval, reduceCtorEq, hb3, hb4, hb6, k1, k2, hd, hq, hb15]
          refine regO gU4_ok ?_
          simp only [push_cast, seval, reduceCtorEq, hb3, hb4, hb6, k1, k2, hd, hq, hb15, wrap_i64' (show -9223372036854775808 ≤ (i : Int) + 1 ∧ (i : Int) + 1 ≤ 9223372036854775807 by omega)]
          have e5 : foldC c (x.cells.take (i + 1)) = ((foldC c (x.cells.take i)).1 ++ [c], true) := by rw [hst]; rfl
          refine ⟨(i + 1, .slice (some ⟨bn, 0, none⟩) ((foldC c (x.cells.take i)).1.length + 1) cn, [⟨bn, 0, .vec 74 35 cn, ((foldC c (x.cells.take i)).1 ++ [c]).flatMap Ce.cells⟩]), ⟨hlt, by dsimp only; rw [e5]; exact ho', ⟨hq.2.2.2.2.2.2.2.2.2.2, trivial⟩, ⟨hq.2.2.2.1, hq.2.2.1, m6⟩, ⟨hq.2.2.2.2.2.1, hq.2.2.2.2.1, m4⟩, ⟨hq.2.2.2.2.2.2.2.1, hq.2.2.2.2.2.2.1, m3⟩, ⟨hq.2.2.2.2.2.2.2.2.2.1, hq.2.2.2.2.2.2.2.2.1, m2⟩⟩, by dsimp only; omega, ⟨by rw [e5], rfl⟩, ⟨rfl, subH_pre (subH_cons f15) [_]⟩, rfl⟩
        · rw [hd] at hst
          simp only [push_cast, seval, reduceCtorEq, hb3, hb4, hb6, k1, hd]
          refine regO gU4_ok ?_
          simp only [push_cast, seval, reduceCtorEq, hb3, hb4, hb6, k1, k2, hd, wrap_i64' (show -9223372036854775808 ≤ (i : Int) + 1 ∧ (i : Int) + 1 ≤ 9223372036854775807 by omega)]
          have e5 : foldC c (x.cells.take (i + 1)) = ((foldC c (x.cells.take i)).1, true) := by rw [hst]; rfl
          refine ⟨(i + 1, .slice po (foldC c (x.cells.take i)).1.length ko, No), ⟨hlt, by dsimp only; rw [e5]; exact ho, hf, r6, r4, r3, r2⟩, by dsimp only; omega, ⟨by rw [e5], rfl⟩, ?_⟩
          first | exact ⟨⟨rfl, subH_self _⟩, rfl⟩ | exact ⟨rfl, rfl⟩ | exact rfl
      · rw [if_neg (by omega), if_neg (by omega)] at hst
        have k1 : ¬ n ≤ 0 := by omega
        have k2 : (n != 0) = true := bne_iff_ne.2 (by omega)
        have e5' : foldC c (x.cells.take (i + 1)) = ((foldC c (x.cells.take i)).1 ++ [y], (foldC c (x.cells.take i)).2) := hst
        simp only [push_cast, seval, reduceCtorEq, hb3, hb4, hb6, k1]
        refine regO gU4_ok ?_
        simp only [push_cast, seval, reduceCtorEq, hb3, hb4, hb6, k1, k2, hlt, i1, fl0, fm, e6, e4, e3, e2, a1, a2]
        intro b15 hb15
        refine ⟨?_, ?_⟩
        · simp only [push_cast, seval, reduceCtorEq, hb15]
          try exact subH_self _
        refine pushC (z := y) [_, _, _, _] ho (g0 b15 hb15.2.2.2.2.2.2.2.2 _ _ _ _ _ rfl rfl rfl rfl rfl) (by omega) fun bn cn hcn ho' hfn => ?_
        have hq := hfn
        simp only [push_cast, seval, reduceCtorEq] at hq
        have f15 := (fresh_app_iff.1 hb15.2.2.2.2.2.2.2.2).2
        simp only [push_cast, seval, reduceCtorEq, hb3, hb4, hb6, k1, k2, hq, hb15, wrap_i64' (show -9223372036854775808 ≤ (i : Int) + 1 ∧ (i : Int) + 1 ≤ 9223372036854775807 by omega)]
        have e5 : foldC c (x.cells.take (i + 1)) = ((foldC c (x.cells.take i)).1 ++ [y], (foldC c (x.cells.take i)).2) := hst
        refine ⟨(i + 1, .slice (some ⟨bn, 0, none⟩) ((foldC c (x.cells.take i)).1.length + 1) cn, [⟨bn, 0, .vec 74 35 cn, ((foldC c (x.cells.take i)).1 ++ [y]).flatMap Ce.cells⟩]), ⟨hlt, by dsimp only; rw [e5]; exact ho', ⟨hq.2.2.2.2.2.2.2.2.2.2, trivial⟩, ⟨hq.2.2.2.1, hq.2.2.1, m6⟩, ⟨hq.2.2.2.2.2.1, hq.2.2.2.2.1, m4⟩, ⟨hq.2.2.2.2.2.2.2.1, hq.2.2.2.2.2.2.1, m3⟩, ⟨hq.2.2.2.2.2.2.2.2.2.1, hq.2.2.2.2.2.2.2.2.1, m2⟩⟩, by dsimp only; omega, ⟨by rw [e5], rfl⟩, ⟨rfl, subH_pre (subH_cons f15) [_]⟩, rfl⟩
    · obtain rfl : i = x.cells.length := by omega
      rw [List.take_length] at ho hle ⊢
      have m6 := (fresh_app_iff.1 r6).2
      have q3a := hf
      cases hd : (foldC c x.cells).2
      · have ef : finC c (foldC c x.cells) = (foldC c x.cells).1 ++ [c] := by unfold finC; rw [hd]; rfl
        rw [ef]
        simp only [push_cast, seval, reduceCtorEq, hb3, hb4, hb6, hd, Nat.lt_irrefl, Int.lt_irrefl]
        refine regO gU4_ok ?_
        simp only [push_cast, seval, reduceCtorEq, hb3, hb4, hb6]
        intro b15 hb15
        have g0 : ∀ b15, fresh b15 (No ++ M1) → ∀ e15 e6 e4 e3 e2 : Ent, e15.blk = b15 → e6.blk = b6 → e4.blk = b4 → e3.blk = b3 → e2.blk = b2 → freshN [e15, e6, e4, e3, e2] No := fun b15 h15 e15 e6 e4 e3 e2 q15 q6 q4 q3 q2 => ⟨q15 ▸ (fresh_app_iff.1 h15).1, q6 ▸ (fresh_app_iff.1 r6).1, q4 ▸ (fresh_app_iff.1 r4).1, q3 ▸ (fresh_app_iff.1 r3).1, q2 ▸ (fresh_app_iff.1 r2).1, trivial⟩
        refine pushC (z := c) [_, _, _, _] ho (g0 b15 hb15.2.2.2.2.2.2.2.2 _ _ _ _ _ rfl rfl rfl rfl rfl) (by omega) fun bn cn hcn ho' hfn => ?_
        have hq := hfn
        simp only [push_cast, seval, reduceCtorEq] at hq
        simp only [push_cast, seval, reduceCtorEq, hb3, hb4, hb6, hq, hb15]
        have hl2 : ((foldC c x.cells).1 ++ [c]).length = (foldC c x.cells).1.length + 1 := by rw [List.length_append]; rfl
        have hfn2 : freshN [⟨bn, 0, .vec 74 35 cn, ((foldC c x.cells).1 ++ [c]).flatMap Ce.cells⟩] M1 := ⟨hq.2.2.2.2.2.2.2.2.2.2, trivial⟩
        have hfin : VeR (⟨x.base, x.reads, x.writes, (foldC c x.cells).1 ++ [c]⟩, 0) (.tuple #[.agg #[.slice qb x.base.length lb, .slice qr x.reads.length lr, .slice qw x.writes.length lw, .slice (some ⟨bn, 0, none⟩) ((foldC c x.cells).1.length + 1) cn], .int .i64 0]) ([⟨bn, 0, .vec 74 35 cn, ((foldC c x.cells).1 ++ [c]).flatMap Ce.cells⟩] ++ M1) := by
          refine ⟨_, rfl, _, _, _, _, rfl, g1.find (find_behind hfn2), LiR.find (find_behind hfn2) g2, LiR.find (find_behind hfn2) g3, ?_⟩
          unfold OutCe at ho'
          rw [← hl2] at ho' ⊢
          exact OutC.liR ho' rfl rfl M1
        exact newKS (N1 := [⟨bn, 0, .vec 74 35 cn, ((foldC c x.cells).1 ++ [c]).flatMap Ce.cells⟩]) hg1 ⟨trivial, trivial⟩ rfl hfn2 (VeR.rd _) hfin ((((((List.Sublist.refl _).cons _).cons _).cons _).cons _).cons _ |>.cons_cons _)
      · have ef : finC c (foldC c x.cells) = (foldC c x.cells).1 := by unfold finC; rw [hd]; rfl
        rw [ef]
        simp only [push_cast, seval, reduceCtorEq, hb3, hb4, hb6, hd, Nat.lt_irrefl, Int.lt_irrefl]
        have hfin : VeR (⟨x.base, x.reads, x.writes, (foldC c x.cells).1⟩, 0) (.tuple #[.agg #[.slice qb x.base.length lb, .slice qr x.reads.length lr, .slice qw x.writes.length lw, .slice po (foldC c x.cells).1.length ko], .int .i64 0]) (No ++ M1) :=
          ⟨_, rfl, _, _, _, _, rfl, g1.find (find_behind hf), LiR.find (find_behind hf) g2, LiR.find (find_behind hf) g3, OutC.liR ho rfl rfl M1⟩
        refine newKS (N1 := No) hg1 ho.wr.1 ho.wr.2 hf (VeR.rd _) hfin ?_
        have hd1 : dropM (No ++ M1) = No ++ M1 := dropM_eq (by rw [marks_append, ho.wr.2, hg1.marks]; rfl)
        have hd2 : dropM M1 = M1 := dropM_eq hg1.marks
        rw [hd1, hd2]
        exact ((((List.Sublist.refl _).cons _).cons _).cons _).cons _
end Go.Proofs.YtincedmdkdjakaaGreat
set_option linter.unusedSimpArgs false
set_option linter.unusedVariables false
namespace Go.Ev
theorem Ce.setBalN (c : Ce) (w : W) : c.key.cells ++ (w.cells ++ List.drop 29 c.cells) = (⟨c.key, w, c.nonce, c.code, c.val⟩ : Ce).cells := by
  have := c.setBal w
  rwa [c.take25] at this
theorem Ce.l29 (c : Ce) : (List.drop 29 c.cells).length = 6 := by rw [List.length_drop, c.len]
theorem Ce.l30 (c : Ce) : (List.drop 30 c.cells).length = 5 := by rw [List.length_drop, c.len]
theorem Ce.t29 (c : Ce) : (List.take 29 c.cells).length = 29 := by rw [List.length_take, c.len]; rfl
theorem Ce.z_sv (k : Ky) (w : W) : List.take 31 (Ce.z k).cells ++ w.cells = (Ce.sv k w).cells := by
  have := Ce.z_set4 k w
  rwa [(Ce.z k).drop35, List.append_nil] at this
end Go.Ev
namespace Go.Proofs.YtincedmdkdjakaaGreat
open Go Go.Ev Go.Proofs
set_option maxRecDepth 100000
set_option maxHeartbeats 4000000
theorem vsetacc_R {M : Hp} {x : Vi} {v : Value} {a : Ac} {p : Option Addr} {n k : Nat} (hv : ViR x v M) (hb : x.Fit) : CallsR Tryz.prog 36 [v, .agg (a.cells (.slice p n k)).toArray] M (VeR (putV x (Ce.ac ⟨a.at_, false, W.zero⟩ a.bal a.nonce a.code))) := by
  intro M0 hr he
  have hm := hr.marks
  replace hv := ViR.rd _ _ _ _ he.symm hv
  have hv0 := hv
  obtain ⟨vb, vr, vw, vc, rfl, h1, h2, h3, h4⟩ := hv
  obtain ⟨pb, kb, rfl⟩ := h1.slice
  obtain ⟨pr, kr, rfl⟩ := LiR.slice h2
  obtain ⟨pw, kw, rfl⟩ := LiR.slice h3
  obtain ⟨pc, kc, rfl⟩ := LiR.slice h4
  have ec : (⟨(Ce.z ⟨a.at_, false, W.zero⟩).key, a.bal, a.nonce, a.code, (Ce.z ⟨a.at_, false, W.zero⟩).val⟩ : Ce) = Ce.ac ⟨a.at_, false, W.zero⟩ a.bal a.nonce a.code := rfl
  refine callsO gU4_ok Tryz.mix (fun i => if i = 1 then [(0, 9)] else Tryz.pl36 i) Tryz.func36 rfl Tryz.ntmps36 Tryz.results36 rfl (by first | rfl | assumption) (Nat.le_of_ble_eq_true rfl) (by kernel_rfl) ?_
  simp only [push_cast, seval, reduceCtorEq]
  intro b2 hb2 b3 hb3 b4 hb4
  have f2 : fresh b2 M0 := hb2
  have f3 : fresh b3 M0 := hb3.2.2
  have f4 : fresh b4 M0 := hb4.2.2.2.2
  refine regO gU4_ok ?_
  simp only [push_cast, seval, reduceCtorEq, hb3, hb4, Ky.oF, Ce.setBalN, Ce.setNon, Ce.setCod, Ce.l29, Ce.l30, Ce.t29, ec]
  refine useL [_, _, _] (vwrite_R (c := Ce.ac ⟨a.at_, false, W.zero⟩ a.bal a.nonce a.code) hv0 hb) (VeR.rd _) hm ⟨f4, f3, f2, trivial⟩ fun u M1 hg1 hL1 hq1 => ?_
  obtain ⟨u, rfl, hu⟩ := hq1
  have hu0 := hu
  obtain ⟨ub, ur, uw, uc, rfl, g1, g2, g3, g4⟩ := hu
  obtain ⟨qb, lb, rfl⟩ := StR.slice g1
  obtain ⟨qr, lr, rfl⟩ := LiR.slice g2
  obtain ⟨qw, lw, rfl⟩ := LiR.slice g3
  obtain ⟨qc, lc, rfl⟩ := LiR.slice g4
  simp only [push_cast, seval, reduceCtorEq, hb3, hb4]
  exact doneK2 [_, _, _] hg1 (VeR.rd _) ⟨_, rfl, hu0⟩
theorem r11setacc_R {M : Hp} {x : Vi} {v : Value} {a : Ac} {p : Option Addr} {n k : Nat} (hv : ViR x v M) (hb : x.Fit) : CallsR Tryz.prog 37 [v, .agg (a.cells (.slice p n k)).toArray] M (VeR (putV x (Ce.ac ⟨a.at_, false, W.zero⟩ a.bal a.nonce a.code))) := by
  intro M0 hr he
  have hm := hr.marks
  replace hv := ViR.rd _ _ _ _ he.symm hv
  have hv0 := hv
  obtain ⟨vb, vr, vw, vc, rfl, h1, h2, h3, h4⟩ := hv
  obtain ⟨pb, kb, rfl⟩ := h1.slice
  obtain ⟨pr, kr, rfl⟩ := LiR.slice h2
  obtain ⟨pw, kw, rfl⟩ := LiR.slice h3
  obtain ⟨pc, kc, rfl⟩ := LiR.slice h4
  have ec : (⟨(Ce.z ⟨a.at_, false, W.zero⟩).key, a.bal, a.nonce, a.code, (Ce.z ⟨a.at_, false, W.zero⟩).val⟩ : Ce) = Ce.ac ⟨a.at_, false, W.zero⟩ a.bal a.nonce a.code := rfl
  refine callsO gU4_ok Tryz.mix (fun i => if i = 1 then [(0, 9)] else Tryz.pl37 i) Tryz.func37 rfl Tryz.ntmps37 Tryz.results37 rfl (by first | rfl | assumption) (Nat.le_of_ble_eq_true rfl) (by kernel_rfl) ?_
  simp only [push_cast, seval, reduceCtorEq]
  intro b2 hb2 b3 hb3 b4 hb4
  have f2 : fresh b2 M0 := hb2
  have f3 : fresh b3 M0 := hb3.2.2
  have f4 : fresh b4 M0 := hb4.2.2.2.2
  refine regO gU4_ok ?_
  simp only [push_cast, seval, reduceCtorEq, hb3, hb4, Ky.oF, Ce.setBalN, Ce.setNon, Ce.setCod, Ce.l29, Ce.l30, Ce.t29, ec]
  refine useL [_, _, _] (r11put_R (c := Ce.ac ⟨a.at_, false, W.zero⟩ a.bal a.nonce a.code) hv0 hb) (VeR.rd _) hm ⟨f4, f3, f2, trivial⟩ fun u M1 hg1 hL1 hq1 => ?_
  obtain ⟨u, rfl, hu⟩ := hq1
  have hu0 := hu
  obtain ⟨ub, ur, uw, uc, rfl, g1, g2, g3, g4⟩ := hu
  obtain ⟨qb, lb, rfl⟩ := StR.slice g1
  obtain ⟨qr, lr, rfl⟩ := LiR.slice g2
  obtain ⟨qw, lw, rfl⟩ := LiR.slice g3
  obtain ⟨qc, lc, rfl⟩ := LiR.slice g4
  simp only [push_cast, seval, reduceCtorEq, hb3, hb4]
  exact doneK2 [_, _, _] hg1 (VeR.rd _) ⟨_, rfl, hu0⟩
theorem vsetslot_R {M : Hp} {x : Vi} {v : Value} {a : Ad} {q w : W} (hv : ViR x v M) (hb : x.Fit) : CallsR Tryz.prog 34 [v, a.v, q.v, w.v] M (VeR (putV x (Ce.sv ⟨a, true, q⟩ w))) := by
  intro M0 hr he
  have hm := hr.marks
  replace hv := ViR.rd _ _ _ _ he.symm hv
  have hv0 := hv
  obtain ⟨vb, vr, vw, vc, rfl, h1, h2, h3, h4⟩ := hv
  obtain ⟨pb, kb, rfl⟩ := h1.slice
  obtain ⟨pr, kr, rfl⟩ := LiR.slice h2
  obtain ⟨pw, kw, rfl⟩ := LiR.slice h3
  obtain ⟨pc, kc, rfl⟩ := LiR.slice h4
  refine callsO gU4_ok Tryz.mix (fun i => if i = 1 then [(0, 9)] else Tryz.pl34 i) Tryz.func34 rfl Tryz.ntmps34 Tryz.results34 rfl (by first | rfl | assumption) (Nat.le_of_ble_eq_true rfl) (by kernel_rfl) ?_
  simp only [push_cast, seval, reduceCtorEq]
  intro b2 hb2 b3 hb3 b4 hb4 b5 hb5 b6 hb6
  have f2 : fresh b2 M0 := hb2
  have f3 : fresh b3 M0 := hb3.2.2
  have f4 : fresh b4 M0 := hb4.2.2.2.2
  have f5 : fresh b5 M0 := hb5.2.2.2.2.2.2
  have f6 : fresh b6 M0 := hb6.2.2.2.2.2.2.2.2
  refine regO gU4_ok ?_
  simp only [push_cast, seval, reduceCtorEq, hb3, hb4, hb5, hb6, Ad.k1, Ad.k2, Ad.k3, Ad.k4, Ky.oT, Ce.z_sv]
  refine useL [_, _, _, _, _] (vwrite_R (c := Ce.sv ⟨a, true, q⟩ w) hv0 hb) (VeR.rd _) hm ⟨f6, f5, f4, f3, f2, trivial⟩ fun u M1 hg1 hL1 hq1 => ?_
  obtain ⟨u, rfl, hu⟩ := hq1
  have hu0 := hu
  obtain ⟨ub, ur, uw, uc, rfl, g1, g2, g3, g4⟩ := hu
  obtain ⟨qb, lb, rfl⟩ := StR.slice g1
  obtain ⟨qr, lr, rfl⟩ := LiR.slice g2
  obtain ⟨qw, lw, rfl⟩ := LiR.slice g3
  obtain ⟨qc, lc, rfl⟩ := LiR.slice g4
  simp only [push_cast, seval, reduceCtorEq, hb3, hb4, hb5, hb6]
  exact doneK2 [_, _, _, _, _] hg1 (VeR.rd _) ⟨_, rfl, hu0⟩
theorem r11setslot_R {M : Hp} {x : Vi} {v : Value} {a : Ad} {q w : W} (hv : ViR x v M) (hb : x.Fit) : CallsR Tryz.prog 35 [v, a.v, q.v, w.v] M (VeR (putV x (Ce.sv ⟨a, true, q⟩ w))) := by
  intro M0 hr he
  have hm := hr.marks
  replace hv := ViR.rd _ _ _ _ he.symm hv
  have hv0 := hv
  obtain ⟨vb, vr, vw, vc, rfl, h1, h2, h3, h4⟩ := hv
  obtain ⟨pb, kb, rfl⟩ := h1.slice
  obtain ⟨pr, kr, rfl⟩ := LiR.slice h2
  obtain ⟨pw, kw, rfl⟩ := LiR.slice h3
  obtain ⟨pc, kc, rfl⟩ := LiR.slice h4
  refine callsO gU4_ok Tryz.mix (fun i => if i = 1 then [(0, 9)] else Tryz.pl35 i) Tryz.func35 rfl Tryz.ntmps35 Tryz.results35 rfl (by first | rfl | assumption) (Nat.le_of_ble_eq_true rfl) (by kernel_rfl) ?_
  simp only [push_cast, seval, reduceCtorEq]
  intro b2 hb2 b3 hb3 b4 hb4 b5 hb5 b6 hb6
  have f2 : fresh b2 M0 := hb2
  have f3 : fresh b3 M0 := hb3.2.2
  have f4 : fresh b4 M0 := hb4.2.2.2.2
  have f5 : fresh b5 M0 := hb5.2.2.2.2.2.2
  have f6 : fresh b6 M0 := hb6.2.2.2.2.2.2.2.2
  refine regO gU4_ok ?_
  simp only [push_cast, seval, reduceCtorEq, hb3, hb4, hb5, hb6, Ad.k1, Ad.k2, Ad.k3, Ad.k4, Ky.oT, Ce.z_sv]
  refine useL [_, _, _, _, _] (r11put_R (c := Ce.sv ⟨a, true, q⟩ w) hv0 hb) (VeR.rd _) hm ⟨f6, f5, f4, f3, f2, trivial⟩ fun u M1 hg1 hL1 hq1 => ?_
  obtain ⟨u, rfl, hu⟩ := hq1
  have hu0 := hu
  obtain ⟨ub, ur, uw, uc, rfl, g1, g2, g3, g4⟩ := hu
  obtain ⟨qb, lb, rfl⟩ := StR.slice g1
  obtain ⟨qr, lr, rfl⟩ := LiR.slice g2
  obtain ⟨qw, lw, rfl⟩ := LiR.slice g3
  obtain ⟨qc, lc, rfl⟩ := LiR.slice g4
  simp only [push_cast, seval, reduceCtorEq, hb3, hb4, hb5, hb6]
  exact doneK2 [_, _, _, _, _] hg1 (VeR.rd _) ⟨_, rfl, hu0⟩
end Go.Proofs.YtincedmdkdjakaaGreat
set_option linter.unusedSimpArgs false
set_option linter.unusedVariables false
namespace Go.Ev
def ApR (r : Ac × Int) : Value → Hp → Prop := fun v H => ∃ sv, v = .tuple #[.agg (r.1.cells sv).toArray, .int .i64 r.2] ∧ LiR Sl.cells 8 H r.1.slots sv
theorem ApR.rd (r : Ac × Int) : RdOnly (ApR r) := by
  rintro v A B h ⟨sv, rfl, hu⟩
  exact ⟨sv, rfl, hu.congr h⟩
theorem Ac.parts (a : Ac) (sv : Value) : a.cells sv = a.at_.cells ++ (a.bal.cells ++ [.int .i64 a.nonce, .string a.code, sv]) := rfl
theorem Ac.setBalN (a : Ac) (w : W) (sv : Value) : a.at_.cells ++ (w.cells ++ List.drop 24 (a.cells sv)) = (⟨a.at_, w, a.nonce, a.code, a.slots⟩ : Ac).cells sv := by
  rw [a.parts, Ad.k5]; rfl
theorem Ac.setNon (a : Ac) (n : Int) (sv : Value) : List.take 24 (a.cells sv) ++ (.int .i64 n :: List.drop 25 (a.cells sv)) = (⟨a.at_, a.bal, n, a.code, a.slots⟩ : Ac).cells sv := by
  rw [a.parts, Ad.k6, Ad.k7, List.append_assoc]; rfl
theorem Ac.setCod (a : Ac) (s : ByteArray) (sv : Value) : List.take 25 (a.cells sv) ++ (.string s :: List.drop 26 (a.cells sv)) = (⟨a.at_, a.bal, a.nonce, s, a.slots⟩ : Ac).cells sv := by
  rw [a.parts, Ad.k8, Ad.k9, List.append_assoc, List.append_assoc]; rfl
end Go.Ev
namespace Go.Proofs.YtincedmdkdjakaaGreat
open Go Go.Ev Go.Proofs
set_option maxRecDepth 100000
set_option maxHeartbeats 4000000
def plAp : Plans := fun i => if i = 1 then [(0, 9)] else if i = 4 then [] else Tryz.pl56 i
attribute [push_cast] plAp
theorem apply_R {M : Hp} {a : Ac} {sv : Value} {c : Ce} (hs : LiR Sl.cells 8 M a.slots sv) : CallsR Tryz.prog 56 [.agg (a.cells sv).toArray, c.v] M (ApR (appC a c)) := by
  intro M0 hr he
  have hm := hr.marks
  replace hs := hs.congr he.symm
  have hs0 := hs
  obtain ⟨ps, ks, rfl⟩ := LiR.slice hs0
  refine callsO gU4_ok Tryz.mix plAp Tryz.func56 rfl Tryz.ntmps56 Tryz.results56 rfl (by first | rfl | assumption) (Nat.le_of_ble_eq_true rfl) (by kernel_rfl) ?_
  simp only [push_cast, seval, reduceCtorEq]
  intro b2 hb2 b3 hb3 b4 hb4
  have f2 : fresh b2 M0 := hb2
  have f3 : fresh b3 M0 := hb3.2.2
  have f4 : fresh b4 M0 := hb4.2.2.2.2
  refine regO gU4_ok ?_
  cases hsl : c.key.slot
  · have e : appC a c = (⟨a.at_, c.bal, c.nonce, c.code, a.slots⟩, 0) := by unfold appC; rw [if_neg (by rw [hsl]; decide)]
    rw [e]
    simp only [push_cast, seval, reduceCtorEq, hb3, hb4, hsl]
    obtain ⟨Z, hZ⟩ : ∃ Z : List Value, Z = [.int .u8 0, .int .u8 0, .int .u8 0, .int .u8 0, .int .u8 0, .int .u8 0, .int .u8 0, .int .u8 0, .int .u8 0, .int .u8 0, .int .u8 0, .int .u8 0, .int .u8 0, .int .u8 0, .int .u8 0, .int .u8 0, .int .u8 0, .int .u8 0, .int .u8 0, .int .u8 0, .int .u64 0, .int .u64 0, .int .u64 0, .int .u64 0, .int .i64 0, .string .empty, .slice none 0 0] := ⟨_, rfl⟩
    rw [← hZ]
    have d34 : ¬ b3 = b4 := hb4.2.1
    have d24 : ¬ b2 = b4 := hb4.2.2.2.1
    have d23 : ¬ b2 = b3 := hb3.2.1
    refine drawN gU4_ok Tryz.mix [(2, .pointer (some ⟨b2, 0, none⟩)), (3, .pointer (some ⟨b3, 0, none⟩)), (4, .pointer (some ⟨b4, 0, none⟩)), (6, .int .i64 0)]
        (fun i => match i with
          | 0 => Value.pointer (some ⟨b3, 25, none⟩)
          | 1 => c.bal.v
          | 2 => Value.pointer (some ⟨b3, 29, none⟩)
          | 3 => Value.int .i64 c.nonce
          | 4 => Value.pointer (some ⟨b3, 30, none⟩)
          | 5 => Value.string c.code
          | 6 => Value.pointer (some ⟨b2, 20, none⟩)
          | 8 => Value.pointer (some ⟨b2, 24, none⟩)
          | 10 => Value.pointer (some ⟨b2, 25, none⟩)
          | _ => undef)
        (fun l => ⟨b4, 0, .cel 53, Z⟩ :: ⟨b3, 0, .cel 74, c.cells⟩ :: ⟨b2, 0, .cel 53, (⟨a.at_, if l 7 = true then c.bal else a.bal, if l 9 = true then c.nonce else a.nonce, if l 11 = true then c.code else a.code, a.slots⟩ : Ac).cells (.slice ps a.slots.length ks)⟩ :: M0) (by kernel_rfl) (by kernel_rfl) (by simp only [push_cast, seval, reduceCtorEq, subT]) (by kernel_rfl) (by rfl) ?_ ?_
    · intro i o ho l T' hli hdep hcl hT
      have hi := (Array.getElem?_eq_some_iff.1 ho).1
      replace hi : i < 12 := hi
      have t2 : getT T' 2 = some (.pointer (some ⟨b2, 0, none⟩)) := hT.1
      have t3 : getT T' 3 = some (.pointer (some ⟨b3, 0, none⟩)) := hT.2.1
      obtain rfl | rfl | rfl | rfl | rfl | rfl | rfl | rfl | rfl | rfl | rfl | rfl : i = 0 ∨ i = 1 ∨ i = 2 ∨ i = 3 ∨ i = 4 ∨ i = 5 ∨ i = 6 ∨ i = 7 ∨ i = 8 ∨ i = 9 ∨ i = 10 ∨ i = 11 := by omega
      · simp only [List.getElem?_toArray, List.getElem?_cons_zero, List.getElem?_cons_succ, Option.some.injEq] at ho; subst ho
        simp only [push_cast, seval, reduceCtorEq, t3]
        first | exact rfl | exact ⟨fun _ => rfl, rfl⟩
      · simp only [List.getElem?_toArray, List.getElem?_cons_zero, List.getElem?_cons_succ, Option.some.injEq] at ho; subst ho
        have g0 := (hdep 0 (by kernel_rfl)).2 22 rfl
        simp only [push_cast, seval, reduceCtorEq, g0, d34]
        first | exact rfl | exact ⟨fun _ => rfl, rfl⟩
      · simp only [List.getElem?_toArray, List.getElem?_cons_zero, List.getElem?_cons_succ, Option.some.injEq] at ho; subst ho
        simp only [push_cast, seval, reduceCtorEq, t3]
        first | exact rfl | exact ⟨fun _ => rfl, rfl⟩
      · simp only [List.getElem?_toArray, List.getElem?_cons_zero, List.getElem?_cons_succ, Option.some.injEq] at ho; subst ho
        have g2 := (hdep 2 (by kernel_rfl)).2 24 rfl
        simp only [push_cast, seval, reduceCtorEq, g2, d34]
        first | exact rfl | exact ⟨fun _ => rfl, rfl⟩
      · simp only [List.getElem?_toArray, List.getElem?_cons_zero, List.getElem?_cons_succ, Option.some.injEq] at ho; subst ho
        simp only [push_cast, seval, reduceCtorEq, t3]
        first | exact rfl | exact ⟨fun _ => rfl, rfl⟩
      · simp only [List.getElem?_toArray, List.getElem?_cons_zero, List.getElem?_cons_succ, Option.some.injEq] at ho; subst ho
        have g4 := (hdep 4 (by kernel_rfl)).2 26 rfl
        simp only [push_cast, seval, reduceCtorEq, g4, d34]
        first | exact rfl | exact ⟨fun _ => rfl, rfl⟩
      · simp only [List.getElem?_toArray, List.getElem?_cons_zero, List.getElem?_cons_succ, Option.some.injEq] at ho; subst ho
        simp only [push_cast, seval, reduceCtorEq, t2]
        first | exact rfl | exact ⟨fun _ => rfl, rfl⟩
      · simp only [List.getElem?_toArray, List.getElem?_cons_zero, List.getElem?_cons_succ, Option.some.injEq] at ho; subst ho
        have g6 := (hdep 6 (by kernel_rfl)).2 28 rfl
        have g1 := (hdep 1 (by kernel_rfl)).2 23 rfl
        have l7 : l 7 = false := hli
        have l9 : l 9 = false := Bool.eq_false_iff.2 fun h => by (have := hcl 9 7 (by kernel_rfl) h; rw [hli] at this; cases this)
        have l11 : l 11 = false := Bool.eq_false_iff.2 fun h => by (have := hcl 11 7 (by kernel_rfl) h; rw [hli] at this; cases this)
        simp only [push_cast, seval, reduceCtorEq, g6, g1, l7, l9, l11, d24, d23, Bool.or_true, Bool.or_false, Bool.true_or, Bool.false_or, Nat.reduceBEq, beq_self_eq_true, Option.isSome_none, Option.isSome_some, false_implies, true_and, and_true, reduceIte, forall_const]
      · simp only [List.getElem?_toArray, List.getElem?_cons_zero, List.getElem?_cons_succ, Option.some.injEq] at ho; subst ho
        simp only [push_cast, seval, reduceCtorEq, t2]
        first | exact rfl | exact ⟨fun _ => rfl, rfl⟩
      · simp only [List.getElem?_toArray, List.getElem?_cons_zero, List.getElem?_cons_succ, Option.some.injEq] at ho; subst ho
        have g8 := (hdep 8 (by kernel_rfl)).2 29 rfl
        have g3 := (hdep 3 (by kernel_rfl)).2 25 rfl
        have l7 : l 7 = true := (hdep 7 (by kernel_rfl)).1
        have l9 : l 9 = false := hli
        have l11 : l 11 = false := Bool.eq_false_iff.2 fun h => by (have := hcl 11 9 (by kernel_rfl) h; rw [hli] at this; cases this)
        simp only [push_cast, seval, reduceCtorEq, g8, g3, l7, l9, l11, d24, d23, Ac.setNon, Bool.or_true, Bool.or_false, Bool.true_or, Bool.false_or, Nat.reduceBEq, beq_self_eq_true, Option.isSome_none, Option.isSome_some, false_implies, true_and, and_true, reduceIte, forall_const]
      · simp only [List.getElem?_toArray, List.getElem?_cons_zero, List.getElem?_cons_succ, Option.some.injEq] at ho; subst ho
        simp only [push_cast, seval, reduceCtorEq, t2]
        first | exact rfl | exact ⟨fun _ => rfl, rfl⟩
      · simp only [List.getElem?_toArray, List.getElem?_cons_zero, List.getElem?_cons_succ, Option.some.injEq] at ho; subst ho
        have g10 := (hdep 10 (by kernel_rfl)).2 30 rfl
        have g5 := (hdep 5 (by kernel_rfl)).2 27 rfl
        have l7 : l 7 = true := (hdep 7 (by kernel_rfl)).1
        have l9 : l 9 = true := (hdep 9 (by kernel_rfl)).1
        have l11 : l 11 = false := hli
        simp only [push_cast, seval, reduceCtorEq, g10, g5, l7, l9, l11, d24, d23, Ac.setCod, Bool.or_true, Bool.or_false, Bool.true_or, Bool.false_or, Nat.reduceBEq, beq_self_eq_true, Option.isSome_none, Option.isSome_some, false_implies, true_and, and_true, reduceIte, forall_const]
    · intro l hall
      have l7 : l 7 = true := hall 7 (by decide)
      have l9 : l 9 = true := hall 9 (by decide)
      have l11 : l 11 = true := hall 11 (by decide)
      have hZl : Z.length = 27 := by rw [hZ]; rfl
      have hZd : List.drop 27 Z = [] := List.drop_of_length_le (Nat.le_of_eq hZl)
      simp only [push_cast, seval, reduceCtorEq, l7, l9, l11, hb3, hb4, hZl, hZd]
      exact doneK2 [_, _, _] (.refl hm) (ApR.rd _) ⟨_, rfl, hs⟩
  · have e : appC a c = (⟨a.at_, a.bal, a.nonce, a.code, (mergeR a.slots [⟨c.key.key, c.val⟩]).1⟩, (mergeR a.slots [⟨c.key.key, c.val⟩]).2) := by unfold appC; rw [if_pos hsl]
    rw [e]
    simp only [push_cast, seval, reduceCtorEq, hb3, hb4, hsl]
    refine useL [_, _, _] (put_R (k := c.key.key) (w := c.val) hs) (PutQ.rd _) hm ⟨f4, f3, f2, trivial⟩ fun u M1 hg1 hL1 hq1 => ?_
    obtain ⟨w, rfl, hw⟩ := hq1
    obtain ⟨pw, kw, rfl⟩ := LiR.slice hw
    simp only [push_cast, seval, reduceCtorEq, hb3, hb4]
    exact doneK2 [_, _, _] hg1 (ApR.rd _) ⟨_, rfl, hw⟩
end Go.Proofs.YtincedmdkdjakaaGreat
set_option linter.unusedSimpArgs false
set_option linter.unusedVariables false
namespace Go.Ev
theorem mergeV_bad {s : List Ac} {x : Vi} (h : ¬ (RiS s ∧ RiV x)) : mergeV s x = ([], 1) := by unfold mergeV; rw [if_neg h]
theorem mergeV_ok {s : List Ac} {x : Vi} (h : RiS s ∧ RiV x) : mergeV s x = goM s x.cells := by unfold mergeV; rw [if_pos h]
theorem goM_cons {s : List Ac} {c : Ce} {r : List Ce} : goM s (c :: r) = if (appC (findS s c.key.at_) c).2 = 0 then (if (setS s (appC (findS s c.key.at_) c).1).2 = 0 then goM (setS s (appC (findS s c.key.at_) c).1).1 r else ([], (setS s (appC (findS s c.key.at_) c).1).2)) else ([], (appC (findS s c.key.at_) c).2) := by rw [goM]
end Go.Ev
namespace Go.Proofs.YtincedmdkdjakaaGreat
open Go Go.Ev Go.Proofs
set_option maxRecDepth 100000
set_option maxHeartbeats 4000000
theorem valuesC_ok (p : Option Addr) (n c : Nat) : CallsV Tryz.prog 55 [.slice p n c] [] (fun r N => ∃ b1, r = .func (.func 89) #[] #[.pointer (some ⟨b1, 0, none⟩)] ∧ N = [⟨b1, 0, .cel 31, [.slice p n c]⟩]) := by
  refine callsO (noG_ok _) Tryz.mix Tryz.pl55 Tryz.func55 rfl Tryz.ntmps55 Tryz.results55 rfl (by first | rfl | assumption) (Nat.le_of_ble_eq_true rfl) (by kernel_rfl) ?_
  simp only [push_cast, seval, reduceCtorEq]
  intro b1
  exact ⟨_, List.Sublist.refl _, b1, rfl, rfl⟩
theorem YieldV.subX {args : List Value} {l : Nat} {H H' : Hp} {K : Value → Hp → Prop} (hy : YieldV Tryz.prog l args H' K) (hs : subH H H') (hm : marksOf H = marksOf H') : YieldV Tryz.prog l args H K := by
  intro w0 mu w h
  obtain ⟨fn, tmps, assign, body, h1, h2⟩ := hy w0 mu w (h.sub hs)
  refine ⟨fn, tmps, assign, body, h1, h2.mono ?_⟩
  rintro e w' ⟨v, H'', h3, h4, h5, h6⟩
  exact ⟨v, H'', h3, h4, h5, h6.trans hm.symm⟩
theorem ceIter {Hc : Hp} {ss : List Ce} {v : Value} {b1 : Nat} {k1 : Kind} (hl : LiR Ce.cells 35 Hc ss v) (hn : ss.length < 1099511627776) (hmc : marksOf Hc = []) (h1 : findE Hc b1 = some ⟨b1, 0, k1, [v]⟩) :
    IterV Tryz.prog 89 [.pointer (some ⟨b1, 0, none⟩)] Hc (ss.map fun s => [s.v]) := by
  obtain ⟨p, c, rfl, hla⟩ := LiR.openE hl
  refine ⟨enterO Tryz.func89 rfl rfl, fun X Ho I St l x0 hro hmk h0 hy => ?_⟩
  have hmarks : ∀ x, marksOf (Hc ++ Ho x) = [] := fun x => by rw [marks_append, hmc, hmk]; rfl
  have hm0 := hmarks x0
  have h1' := fun z => find_left (B := Ho z) h1
  have yl : ∀ (j : Nat) (z : X) (v : Value) (K' : Value → Hp → Prop) (hj : j < ss.length), v = (ss[j]).v → I j z → (∀ x', I (j + 1) x' → K' (.bool true) (Hc ++ Ho x')) → (∀ x', St x' → K' (.bool false) (Hc ++ Ho x')) → YieldV Tryz.prog l [v] (Hc ++ Ho z) K' := fun j z v K' hj hv hi ht hf => by
    subst hv
    refine (hy j z [(ss[j]).v] (by rw [List.getElem?_map, List.getElem?_eq_getElem hj]; rfl) hi).frame ?_ ?_
    · rintro v H' (⟨rfl, x', _, rfl⟩ | ⟨rfl, x', _, rfl⟩) <;> exact hro z x'
    · rintro v H' (⟨rfl, x', h, rfl⟩ | ⟨rfl, x', h, rfl⟩)
      · exact ht x' h
      · exact hf x' h
  obtain ⟨vs, hvs⟩ : ∃ vs, vs = ss.map fun s => [Ce.v s] := ⟨_, rfl⟩
  have hvl : vs.length = ss.length := by rw [hvs]; simp
  have yf : ∀ (x' : X), (I vs.length x' ∨ St x') → ∃ H'_1, List.Sublist H'_1 (dropM (Hc ++ Ho x')) ∧ ∃ z, (I vs.length z ∨ St z) ∧ H'_1 = Ho z := fun x' hst => by
    refine ⟨Ho x', ?_, x', hst, rfl⟩
    rw [dropM_eq (hmarks x')]
    exact List.sublist_append_right _ _
  rw [← hvs]
  refine callsO (noG_ok _) Tryz.mix Tryz.pl89 Tryz.func89 rfl Tryz.ntmps89 Tryz.results89 rfl (by first | rfl | assumption) (Nat.le_of_ble_eq_true rfl) (by kernel_rfl) ?_
  simp only [push_cast, seval, reduceCtorEq, h1']
  refine loopO (noG_ok _) (pl := Tryz.pl89) Tryz.mix (X := Nat × X)
    (fun s => ([(0, .func (.yield l) #[] #[]), (5, .slice p ss.length c), (6, .int .i64 ss.length), (7, .int .i64 s.1)], Hc ++ Ho s.2))
    (fun s => s.1 ≤ ss.length ∧ I s.1 s.2) (fun s => ss.length - s.1) (0, x0) ?_ ?_ (by kernel_rfl) ?_
  · exact ⟨Nat.zero_le _, h0⟩
  · simp only [push_cast, seval, reduceCtorEq, hm0, subH_self]
  · rintro ⟨i, z⟩ ⟨hi, hI⟩
    dsimp only at hi hI ⊢
    rcases Nat.lt_or_ge i ss.length with hlt | hge
    · obtain ⟨y, hy⟩ : ∃ y, ss[i]? = some y := ⟨ss[i], List.getElem?_eq_getElem hlt⟩
      have hyi : ss[i] = y := (List.getElem?_eq_some_iff.1 hy).2
      rcases hla with hl0 | ⟨b, f', d, kd, cs, rfl, hfe, hat⟩
      · rw [hl0] at hy; simp at hy
      obtain ⟨a1, a2⟩ := hat i y hy
      have hfe' := fun z => find_left (B := Ho z) hfe
      have i1 : (i : Int) < (ss.length : Int) := by omega
      simp only [push_cast, seval, reduceCtorEq, h1', hfe', i1, hlt, a1, a2]
      intro b4 hb4
      refine YieldV.subX (H' := Hc ++ Ho z) (yl i z _ _ hlt (by rw [hyi]) hI (fun x' hx' => ?_) (fun x' hx' => ?_)) (subH_cons hb4) (by simp only [marksOf])
      · simp only [push_cast, seval, reduceCtorEq, wrap_i64' (show -9223372036854775808 ≤ (i : Int) + 1 ∧ (i : Int) + 1 ≤ 9223372036854775807 by omega)]
        exact ⟨(i + 1, x'), ⟨hlt, hx'⟩, by dsimp only; omega, ⟨rfl, subH_self _, by simp only [hmarks]⟩⟩
      · simp only [push_cast, seval, reduceCtorEq]
        exact yf x' (.inr hx')
    · obtain rfl : i = ss.length := by omega
      simp only [push_cast, seval, reduceCtorEq, h1', Nat.lt_irrefl]
      exact yf z (.inl (by rw [hvl]; exact hI))
end Go.Proofs.YtincedmdkdjakaaGreat
