/- Texts of this claim, merged by program: Un Uo Up EvN Uq Ur Us Ut. -/
import Derived.Test.YtincedmdkdjakaaGreatZfAm
import Derived.Test.YtincedmdkdjakaaGreatZfAg
set_option linter.unusedSimpArgs false
set_option linter.unusedVariables false
namespace Go.Ev
theorem StR.find {s : List Ac} {v : Value} {X Y : Hp} (h : ∀ b e, findE X b = some e → findE Y b = some e) (hv : StR s v X) : StR s v Y := by
  obtain ⟨L, h1, h2, h3⟩ := hv
  exact ⟨L, h1, h2.find h, fun x hx => (h3 x hx).find h⟩
theorem ViR.find {x : Vi} {v : Value} {X Y : Hp} (h : ∀ b e, findE X b = some e → findE Y b = some e) (hv : ViR x v X) : ViR x v Y := by
  obtain ⟨vb, vr, vw, vc, rfl, h1, h2, h3, h4⟩ := hv
  exact ⟨vb, vr, vw, vc, rfl, h1.find h, LiR.find h h2, LiR.find h h3, LiR.find h h4⟩
def ViO (e : Nat) (x : Vi) : Value → Hp → Hp → Prop := fun v N1 H => ∃ vb vr vw vc, v = .agg #[vb, vr, vw, vc] ∧ StR x.base vb H ∧ KsR x.reads vr H ∧ KsR x.writes vw H ∧ OutG e 35 (x.cells.flatMap Ce.cells) x.cells.length vc N1
theorem ViO.rd (e : Nat) (x : Vi) : RdOwn (ViO e x) := by
  rintro v N1 A B h ⟨vb, vr, vw, vc, rfl, h1, h2, h3, h4⟩
  exact ⟨vb, vr, vw, vc, rfl, StR.rd _ _ _ _ h h1, h2.congr h, h3.congr h, h4⟩
theorem ViO.r {e : Nat} {x : Vi} {v : Value} {N1 H : Hp} (hf : freshN N1 H) (h : ViO e x v N1 H) : ViR x v (N1 ++ H) := by
  obtain ⟨vb, vr, vw, vc, rfl, h1, h2, h3, h4⟩ := h
  exact ⟨vb, vr, vw, vc, rfl, h1.find (find_behind hf), LiR.find (find_behind hf) h2, LiR.find (find_behind hf) h3, h4.liR rfl rfl H⟩
end Go.Ev
namespace Go.Proofs.YtincedmdkdjakaaGreat
open Go Go.Ev Go.Proofs
set_option maxRecDepth 100000
set_option maxHeartbeats 4000000
attribute [-push_cast] evAppend_nil
end Go.Proofs.YtincedmdkdjakaaGreat
set_option linter.unusedSimpArgs false
set_option linter.unusedVariables false
namespace Go.Proofs.YtincedmdkdjakaaGreat
open Go Go.Ev Go.Proofs
set_option maxRecDepth 100000
set_option maxHeartbeats 4000000
def plVW : Plans := fun i => if i = 7 then [] else Tryz.pl54 i
attribute [push_cast] plVW
theorem vown_ok {M : Hp} {x : Vi} {v : Value} (hv : ViR x v M) (hb : x.Fit) : CallsW Tryz.prog 54 [v] M (ViO 74 x) := by
  intro M0 hr he
  have hm := hr.marks
  replace hv := ViR.rd _ _ _ _ he.symm hv
  obtain ⟨n1, n2, n3, n4, n5⟩ := hb
  obtain ⟨vb, vr, vw, vc, rfl, ⟨L, hLb, hl, hsl⟩, h2, h3, h4⟩ := hv
  have hlen : x.base.length = L.length := by rw [← hLb, List.length_map]
  have hl0 := hl
  obtain ⟨pb, kb, rfl⟩ := hl0.slice
  obtain ⟨pr, kr, rfl⟩ := LiR.slice h2
  obtain ⟨pw, kw, rfl⟩ := LiR.slice h3
  obtain ⟨pc, kc, rfl⟩ := LiR.slice h4
  refine callsO gU3_ok Tryz.mix plVW Tryz.func54 rfl Tryz.ntmps54 Tryz.results54 rfl (by first | rfl | assumption) (Nat.le_of_ble_eq_true rfl) (by kernel_rfl) ?_
  simp only [push_cast, seval, reduceCtorEq]
  intro b1 hb1 b2 hb2
  have f1 : fresh b1 M0 := hb1
  have f2 : fresh b2 M0 := hb2.2.2
  simp only [push_cast, seval, reduceCtorEq, hb2]
  refine useB [_, _] (Q := fun u N1 H => OutG 53 27 (L.flatMap acC) L.length u N1) (fun M1 hr1 he1 => ?_) (fun _ _ _ _ _ h => h) hm ⟨f2, f1, trivial⟩ fun v N M1 hg hf hL1 hw hm1 hq => ?_
  · exact (cloneA_ok (hl.congr he1.symm) (fun y hy => (hsl y hy).one) hr1.marks (by omega)).toK fun u N h => ⟨N, [], by simp, h.wr.1, h.wr.2, trivial, rfl, freshN_nil _, fun _ => h⟩
  obtain ⟨p, c, rfl⟩ := hq.slice
  simp only [push_cast, seval, reduceCtorEq, hb2]
  have fNM : ∀ b, fresh b (N ++ M1) → fresh b N ∧ fresh b M1 := fun b h => fresh_app_iff.1 h
  refine loopO gU3_ok (pl := Tryz.pl54) Tryz.mix (X := Nat × List (Ac × Value) × Hp × Hp)
    (fun s => ([(1, .pointer (some ⟨b1, 0, none⟩)), (2, .pointer (some ⟨b2, 0, none⟩)), (10, .int .i64 L.length), (11, .int .i64 s.1)], ⟨b2, 0, .cel 33, [.slice none 0 0, .slice none 0 0, .slice none 0 0, .slice none 0 0]⟩ :: ⟨b1, 0, .cel 33, [.slice p L.length c, .slice pr x.reads.length kr, .slice pw x.writes.length kw, .slice pc x.cells.length kc]⟩ :: (s.2.2.1 ++ s.2.2.2)))
    (fun s => s.1 ≤ L.length ∧ s.2.1.map (·.1) = (L.take s.1).map (·.1) ∧ OutG 53 27 ((s.2.1 ++ L.drop s.1).flatMap acC) L.length (.slice p L.length c) s.2.2.1 ∧ Gr M0 s.2.2.2 ∧ freshN s.2.2.1 s.2.2.2 ∧ freshN [⟨b2, 0, .cel 33, [.slice none 0 0, .slice none 0 0, .slice none 0 0, .slice none 0 0]⟩, ⟨b1, 0, .cel 33, [.slice p L.length c, .slice pr x.reads.length kr, .slice pw x.writes.length kw, .slice pc x.cells.length kc]⟩] (s.2.2.1 ++ s.2.2.2) ∧ ∀ y ∈ s.2.1, LiR Sl.cells 8 s.2.2.2 y.1.slots y.2)
    (fun s => L.length - s.1) (0, [], N, M1) ?_ ?_ (by kernel_rfl) ?_
  · exact ⟨Nat.zero_le _, rfl, hq, hg, hf, hL1, fun y hy => by cases hy⟩
  · simp only [push_cast, seval, reduceCtorEq]
  · rintro ⟨i, B, N, M1⟩ ⟨hi, hB, ho, hg, hf, hL, hsB⟩
    dsimp only at hi hB ho hg hf hL hsB ⊢
    have hBl : B.length = i := by have := congrArg List.length hB; simpa [Nat.min_eq_left hi] using this
    rcases Nat.lt_or_ge i L.length with hlt | hge
    · rcases ho with ⟨h0, -⟩ | ⟨b, c0, hvv, hc, hcl, rfl⟩
      · omega
      cases hvv
      obtain ⟨y, hy⟩ : ∃ x, L[i]? = some x := ⟨L[i], List.getElem?_eq_getElem hlt⟩
      have hd : L.drop i = y :: L.drop (i + 1) := by
        rw [List.drop_eq_getElem_cons hlt, (List.getElem?_eq_some_iff.1 hy).2]
      rw [hd] at hcl ⊢
      obtain ⟨a1, a2⟩ := acC_at (B := B) (R := L.drop (i + 1)) (x := y)
      have a3 := fun sv => acC_set (B := B) (R := L.drop (i + 1)) (x := y) (sv := sv)
      rw [hBl] at a1 a2 a3
      have i1 : (i : Int) < (L.length : Int) := by omega
      have hym := List.mem_of_getElem? hy
      have q2 := hL.1
      have q1 := hL.2.1
      simp only [push_cast, seval, reduceCtorEq] at q1 q2
      simp only [push_cast, seval, reduceCtorEq, hb2, i1, hlt, a1, a2, q1, q2]
      have hLv : freshN [⟨b2, 0, .cel 33, [.slice none 0 0, .slice none 0 0, .slice none 0 0, .slice none 0 0]⟩, ⟨b1, 0, .cel 33, [.slice (some ⟨b, 0, none⟩) L.length c, .slice pr x.reads.length kr, .slice pw x.writes.length kw, .slice pc x.cells.length kc]⟩, ⟨b, 0, .vec 53 27 c, (B ++ y :: L.drop (i + 1)).flatMap acC⟩] M1 := ⟨q2.2.2, q1.2.2, hf.1, trivial⟩
      refine useL [_, _, _] (cloneS_R ((hsl y hym).ext hg.ext) (by have := n2 _ (hLb ▸ List.mem_map_of_mem hym); omega)) (LiR.rd _) hg.marks hLv fun w M2 hg2 hf2 hq2 => ?_
      obtain ⟨ps, ks, rfl⟩ := hq2.slice
      simp only [push_cast, seval, reduceCtorEq, hb2, i1, hlt, a1, a2, a3, q1, q2, wrap_i64' (show -9223372036854775808 ≤ (i : Int) + 1 ∧ (i : Int) + 1 ≤ 9223372036854775807 by omega)]
      have ea : B ++ (y.1, Value.slice ps y.1.slots.length ks) :: L.drop (i + 1) = (B ++ [(y.1, Value.slice ps y.1.slots.length ks)]) ++ L.drop (i + 1) := by simp
      refine ⟨subH_gr (N := []) trivial hg2, (i + 1, B ++ [(y.1, Value.slice ps y.1.slots.length ks)], [⟨b, 0, .vec 53 27 c, (B ++ (y.1, Value.slice ps y.1.slots.length ks) :: L.drop (i + 1)).flatMap acC⟩], M2), ⟨hlt, ?_, .inr ⟨b, c, rfl, hc, ?_, by rw [ea]⟩, hg.trans hg2, ⟨hf2.2.2.1, trivial⟩, ⟨⟨q2.1, q2.2.1, hf2.1⟩, ⟨q1.1, q1.2.1, hf2.2.1⟩⟩, ?_⟩, by dsimp only; omega, rfl, subH_self _, rfl⟩
      · rw [List.map_append, hB, List.take_add_one, hy, List.map_append]; rfl
      · rw [flatMap_len acC_len]
        simp only [List.length_append, List.length_cons, List.length_drop, hBl, List.length_nil]
        congr 1; omega
      · intro z hz
        rcases List.mem_append.1 hz with hz | hz
        · exact (hsB z hz).ext hg2.ext
        · rw [List.mem_singleton.1 hz]; exact hq2
    · obtain rfl : i = L.length := by omega
      rw [List.drop_length, List.append_nil] at ho
      have hst : StO 53 x.base (.slice p L.length c) N M1 := ⟨B, hB.trans (by rw [List.take_length, hLb]), by rw [hBl]; exact ho, hsB⟩
      have hst2 : StR x.base (.slice p L.length c) (M1 ++ N) := StR.rd _ _ _ _ (cellsAt_swap hf) (hst.r hf)
      simp only [push_cast, seval, reduceCtorEq, Nat.lt_irrefl, Int.lt_irrefl]
      refine WpV.perm (H' := ⟨b2, 0, .cel 33, [.slice none 0 0, .slice none 0 0, .slice none 0 0, .slice none 0 0]⟩ :: ⟨b1, 0, .cel 33, [.slice p L.length c, .slice pr x.reads.length kr, .slice pw x.writes.length kw, .slice pc x.cells.length kc]⟩ :: (M1 ++ N)) (((List.perm_append_comm).cons _).cons _) (by simp [marks_append, marksOf, ho.wr.2, hg.marks]) ?_
      refine WpV.slots [(1, .pointer (some ⟨b1, 0, none⟩)), (2, .pointer (some ⟨b2, 0, none⟩))] (by simp only [push_cast, seval, reduceCtorEq]) ?_
      have hg1 : Gr M0 (M1 ++ N) := hg.trans ⟨hg.marks, N, rfl, ho.wr.1, ho.wr.2⟩
      have hLx : freshN [⟨b2, 0, .cel 33, [.slice none 0 0, .slice none 0 0, .slice none 0 0, .slice none 0 0]⟩, ⟨b1, 0, .cel 33, [.slice p L.length c, .slice pr x.reads.length kr, .slice pw x.writes.length kw, .slice pc x.cells.length kc]⟩] (M1 ++ N) := ⟨fresh_app_iff.2 ⟨(fresh_app_iff.1 hL.1).2, (fresh_app_iff.1 hL.1).1⟩, fresh_app_iff.2 ⟨(fresh_app_iff.1 hL.2.1).2, (fresh_app_iff.1 hL.2.1).1⟩, trivial⟩
      generalize M1 ++ N = M2 at hst2 hg1 hLx ⊢
      refine drawO gU3_ok Tryz.mix [(0, 0), (1, 0), (2, 0), (4, 0), (5, 0), (6, 0), (3, 2), (7, 2), (8, 0), (9, 0), (10, 1)] (by kernel_rfl) ?_
      simp only [push_cast, seval, reduceCtorEq, hb2]
      refine useL [_, _] (cloneY_R (h2.ext hg1.ext) n3) (LiR.rd _) hg1.marks hLx fun w M3 hg3 hL3 hq3 => ?_
      obtain ⟨p3, k3, rfl⟩ := hq3.slice
      simp only [push_cast, seval, reduceCtorEq, hb2]
      refine ⟨subH_gr (N := []) trivial hg3, ?_⟩
      refine useL [_, _] (cloneY_R (h3.ext (hg1.trans hg3).ext) n4) (LiR.rd _) hg3.marks hL3 fun w M4 hg4 hL4 hq4 => ?_
      obtain ⟨p4, k4, rfl⟩ := hq4.slice
      simp only [push_cast, seval, reduceCtorEq, hb2]
      refine ⟨subH_gr (N := []) trivial hg4, ?_⟩
      refine useB [_, _] (cloneE_W (h4.ext ((hg1.trans hg3).trans hg4).ext) n5) (fun _ _ _ _ _ h => h) hg4.marks hL4 fun w N5 M5 hg5 hf5 hL5 hw5 hm5 hq5 => ?_
      obtain ⟨p5, k5, rfl⟩ := hq5.slice
      simp only [push_cast, seval, reduceCtorEq, hb2]
      exact doneN [_, _] (((hg1.trans hg3).trans hg4).trans hg5) hw5 hm5 hf5 (ViO.rd _ _) ⟨_, _, _, _, rfl, hst2.ext ((hg3.trans hg4).trans hg5).ext, hq3.ext (hg4.trans hg5).ext, hq4.ext hg5.ext, hq5⟩
theorem vown_R {M : Hp} {x : Vi} {v : Value} (hv : ViR x v M) (hb : x.Fit) : CallsR Tryz.prog 54 [v] M (ViR x) :=
  (vown_ok hv hb).toR fun v N1 A _ _ hf hq => hq.r hf
end Go.Proofs.YtincedmdkdjakaaGreat
set_option linter.unusedSimpArgs false
set_option linter.unusedVariables false
namespace Go.Ev
structure PlaceC (L : List Ce) (a : Ky) (i : Nat) : Prop where
  le : i ≤ L.length
  lo : ∀ (k : Nat) (x : Ce), k < i → L[k]? = some x → x.key.lt a
  hi : ∀ (k : Nat) (x : Ce), i ≤ k → L[k]? = some x → ¬ x.key.lt a
end Go.Ev
namespace Go.Proofs.YtincedmdkdjakaaGreat
open Go Go.Ev Go.Proofs
set_option maxRecDepth 100000
set_option maxHeartbeats 4000000
theorem bsearchC_ok {H : Hp} {L : List Ce} {v : Value} {a : Ce} (hm : marksOf H = []) (hn : L.length ≤ 1000000000) (hl : LiR Ce.cells 35 H L v) (hs : L.Pairwise fun x y => x.key.lt y.key) :
    CallsV Tryz.prog 114 [v, a.v, .func (.func 67) #[] #[]] H (fun u N => ∃ i, PlaceC L a.key i ∧ u = .tuple #[.int .i64 i, .bool (decide (∃ x, L[i]? = some x ∧ x.key = a.key))] ∧ N = []) := by
  obtain ⟨p, k, rfl, hla⟩ := LiR.openE hl
  refine callsO gU3_ok Tryz.mix Tryz.pl114 Tryz.func114 rfl Tryz.ntmps114 Tryz.results114 rfl (by first | rfl | assumption) (Nat.le_of_ble_eq_true rfl) (by kernel_rfl) ?_
  simp only [push_cast, seval, reduceCtorEq]
  intro b4 hb4
  refine loopO gU3_ok (pl := Tryz.pl114) Tryz.mix (X := Nat × Nat)
    (fun s => ([(0, .slice p L.length k), (2, .func (.func 67) #[] #[]), (4, .pointer (some ⟨b4, 0, none⟩)), (8, .int .i64 L.length), (9, .int .i64 s.1), (10, .int .i64 s.2)], ⟨b4, 0, .cel 74, a.cells⟩ :: H))
    (fun s => s.1 ≤ s.2 ∧ s.2 ≤ L.length ∧ (∀ (k : Nat) (x : Ce), k < s.1 → L[k]? = some x → x.key.lt a.key) ∧ ∀ (k : Nat) (x : Ce), s.2 ≤ k → L[k]? = some x → ¬ x.key.lt a.key) (fun s => s.2 - s.1) (0, L.length) ?_ ?_ (by kernel_rfl) ?_
  · exact ⟨Nat.zero_le _, Nat.le_refl _, fun k x h => absurd h (Nat.not_lt_zero _), fun k x h hx => absurd (List.getElem?_eq_some_iff.1 hx).1 (by dsimp only at h; omega)⟩
  · simp only [push_cast, seval, reduceCtorEq]
  · rintro ⟨i, j⟩ ⟨hij, hj, hlo, hhi⟩
    dsimp only at hij hj hlo hhi ⊢
    rcases Nat.lt_or_ge i j with hlt | hge
    · have i1 : (i : Int) < (j : Int) := by omega
      obtain ⟨m, hmm⟩ : ∃ m, (i + j) / 2 = m := ⟨_, rfl⟩
      have hh := half_mid (i := i) (j := j) (by omega) hmm
      have him : i ≤ m := by omega
      have hmj : m < j := by omega
      obtain ⟨x, hx⟩ : ∃ x, L[m]? = some x := ⟨L[m]'(by omega), List.getElem?_eq_getElem (by omega)⟩
      rcases hla with rfl | ⟨b, f', d, kd, cs, rfl, hfe, hat⟩
      · simp at hx
      obtain ⟨a1, a2⟩ := hat m x hx
      have n4 := (fresh_findS hb4 hfe).2
      have i2 : m < L.length := by omega
      by_cases hc : x.key.lt a.key
      · have hc0 : ordY x.key a.key < 0 := ordY_neg.2 hc
        simp only [push_cast, seval, reduceCtorEq, i1, hlt, wrap_i64' (show -9223372036854775808 ≤ (i : Int) + (j : Int) ∧ (i : Int) + (j : Int) ≤ 9223372036854775807 by omega), hh, i2, hfe, n4, a1, a2, hc0, wrap_i64' (show -9223372036854775808 ≤ (m : Int) + 1 ∧ (m : Int) + 1 ≤ 9223372036854775807 by omega)]
        refine ⟨(m + 1, j), ⟨hmj, hj, fun q y hq hy => ?_, hhi⟩, by dsimp only; omega, rfl, rfl⟩
        rcases Nat.lt_or_ge q m with h | h
        · exact Ky.lt_trans (by
            obtain ⟨hq1, hq2⟩ := List.getElem?_eq_some_iff.1 hy
            obtain ⟨hm1, hm2⟩ := List.getElem?_eq_some_iff.1 hx
            have := List.pairwise_iff_getElem.1 hs q m hq1 hm1 h
            rwa [hq2, hm2] at this) hc
        · obtain rfl : q = m := by omega
          rw [hx] at hy; cases hy; exact hc
      · have hc0 : ¬ ordY x.key a.key < 0 := fun h => hc (ordY_neg.1 h)
        simp only [push_cast, seval, reduceCtorEq, i1, hlt, wrap_i64' (show -9223372036854775808 ≤ (i : Int) + (j : Int) ∧ (i : Int) + (j : Int) ≤ 9223372036854775807 by omega), hh, i2, hfe, n4, a1, a2, hc0]
        refine ⟨(i, m), ⟨him, by omega, hlo, fun q y hq hy => ?_⟩, by dsimp only; omega, rfl, rfl⟩
        rcases Nat.lt_or_ge m q with h | h
        · exact fun hcc => hc (Ky.lt_trans (by
            obtain ⟨hq1, hq2⟩ := List.getElem?_eq_some_iff.1 hy
            obtain ⟨hm1, hm2⟩ := List.getElem?_eq_some_iff.1 hx
            have := List.pairwise_iff_getElem.1 hs m q hm1 hq1 h
            rwa [hq2, hm2] at this) hcc)
        · obtain rfl : q = m := by dsimp only at hq; omega
          rw [hx] at hy; cases hy; exact hc
    · obtain rfl : i = j := by omega
      rcases Nat.lt_or_ge i L.length with h1 | h1
      · obtain ⟨x, hx⟩ : ∃ x, L[i]? = some x := ⟨L[i], List.getElem?_eq_getElem h1⟩
        rcases hla with rfl | ⟨b, f', d, kd, cs, rfl, hfe, hat⟩
        · simp at hx
        obtain ⟨a1, a2⟩ := hat i x hx
        have n4 := (fresh_findS hb4 hfe).2
        have i1 : (i : Int) < (L.length : Int) := by omega
        have hP : PlaceC L a.key i := ⟨hj, hlo, hhi⟩
        by_cases hxa : x.key = a.key
        · have hc0 : (ordY x.key a.key == 0) = true := beq_iff_eq.2 (ordY_zero.2 hxa)
          simp only [push_cast, seval, reduceCtorEq, hc0, hfe, n4, a1, a2, Nat.lt_irrefl, Int.lt_irrefl, i1, h1]
          refine ⟨[], List.nil_sublist _, i, hP, ?_, rfl⟩
          rw [decide_eq_true ⟨x, hx, hxa⟩]
        · have hc0 : (ordY x.key a.key == 0) = false := beq_eq_false_iff_ne.2 fun h => hxa (ordY_zero.1 h)
          simp only [push_cast, seval, reduceCtorEq, hc0, hfe, n4, a1, a2, Nat.lt_irrefl, Int.lt_irrefl, i1, h1]
          refine ⟨[], List.nil_sublist _, i, hP, ?_, rfl⟩
          rw [decide_eq_false]
          rintro ⟨y, hy, hya⟩
          rw [hx] at hy; cases hy; exact hxa hya
      · have i1 : ¬ (i : Int) < (L.length : Int) := by omega
        have i2 : ¬ i < L.length := by omega
        simp only [push_cast, seval, reduceCtorEq, Nat.lt_irrefl, Int.lt_irrefl, i1, i2]
        refine ⟨[], List.nil_sublist _, i, ⟨hj, hlo, hhi⟩, ?_, rfl⟩
        rw [decide_eq_false]
        rintro ⟨y, hy, -⟩
        exact i2 (List.getElem?_eq_some_iff.1 hy).1
theorem vfind_ok {H : Hp} {L : List Ce} {v : Value} {a : Ce} (hm : roM H) (hn : L.length ≤ 1000000000) (hl : LiR Ce.cells 35 H L v) (hs : L.Pairwise fun x y => x.key.lt y.key) :
    CallsV Tryz.prog 80 [v, a.v, .func (.func 67) #[] #[]] H (fun u N => (∃ i, PlaceC L a.key i ∧ u = .tuple #[.int .i64 i, .bool (decide (∃ x, L[i]? = some x ∧ x.key = a.key))]) ∧ N = []) := by
  have hm0 := hm.marks
  obtain ⟨p, k, rfl, -⟩ := LiR.openE hl
  refine callsO gU3_ok Tryz.mix Tryz.pl80 Tryz.func80 rfl Tryz.ntmps80 Tryz.results80 rfl (by first | rfl | assumption) (Nat.le_of_ble_eq_true rfl) (by kernel_rfl) ?_
  simp only [push_cast, seval, reduceCtorEq]
  intro b4 hb4
  have hx : Ext H (⟨b4, 0, .cel 74, a.cells⟩ :: H) := Ext.cons hm0 rfl hb4
  refine useV (Q := fun u => ∃ i, PlaceC L a.key i ∧ u = .tuple #[.int .i64 i, .bool (decide (∃ y, L[i]? = some y ∧ y.key = a.key))]) (fun M2 hr2 he2 => (bsearchC_ok (a := a) hr2.marks hn ((hl.ext hx).congr he2.symm) hs).toK fun u N h => ?_) ?_
  · obtain ⟨i, hi, h1, h2⟩ := h
    exact ⟨⟨i, hi, h1⟩, h2⟩
  rintro u ⟨i, hi, rfl⟩
  simp only [push_cast, seval, reduceCtorEq]
  exact ⟨[], List.nil_sublist _, ⟨i, hi, rfl⟩, rfl⟩
end Go.Proofs.YtincedmdkdjakaaGreat
set_option linter.unusedSimpArgs false
set_option linter.unusedVariables false
namespace Go.Ev
theorem drawN {P : Program} {r : Option Nat} {n : Nat} {G : Gam} (hG : GamOk P G) (hmix : P.follows .mixedOrders = true) {id : Nat} {ops : Array Oper} {K : Exit → Tm → Hp → Prop} {T : Tm} {H : Hp} (Tb : Tm) (val : Nat → Value) (st : (Nat → Bool) → Hp)
    (hb : backB ops = true) (hd : dstB n ops = true) (hTb : subT T Tb) (hTd : (Tb.all fun x => !(ops.toList.filterMap (·.dst)).contains x.1) = true) (h0 : H = st (fun _ => false))
    (step : ∀ (i : Nat) (o : Oper), ops[i]? = some o → ∀ (l : Nat → Bool) (T' : Tm), l i = false → (∀ j, (o.after.any fun e => Region.binds .any e && e.on == j) = true → l j = true ∧ ∀ s, (ops[j]?).bind (·.dst) = some s → getT T' s = some (val j)) →
      (∀ k j, ((ops[k]?).any fun p => p.after.any fun e => Region.binds .any e && e.on == j) = true → l k = true → l j = true) → subT T' Tb →
      evOp P G T' (st l) o.op (fun v H'' => (o.dst.isSome = true → v = val i) ∧ H'' = st (fun j => j == i || l j)))
    (fin : ∀ l, (∀ i, i < ops.size → l i = true) → K .normal (dstsL val Tb ops.toList 0) (st l)) : WpV P r n (.region id ops true) K T H := by
  refine drawI hG hmix (fun l T' H' => H' = st l ∧ (∀ i o, ops[i]? = some o → l i = true → (∀ e ∈ o.after, Region.binds .any e = true → l e.on = true) ∧ ∀ s, o.dst = some s → getT T' s = some (val i)) ∧ subT T' Tb) hb ⟨h0, (fun _ _ _ h => by cases h), hTb⟩ ?_ ?_
  · rintro l T' H' i o hap ⟨rfl, h1, h2⟩ ho hli hdeps
    refine ⟨_, _, List.Perm.refl _, rfl, step i o ho l T' hli (fun j hj => ?_) (fun k j hk hl => ?_) h2, ?_⟩
    · obtain ⟨e, he, heb⟩ := Array.any_eq_true'.1 hj
      simp only [Bool.and_eq_true, beq_iff_eq] at heb
      obtain ⟨hbb, rfl⟩ := heb
      have hlt := (backB_spec hb ho).2 e he hbb
      have hi := (Array.getElem?_eq_some_iff.1 ho).1
      have hp : ops[e.on]? = some ops[e.on] := Array.getElem?_eq_getElem (by omega)
      exact ⟨hdeps e he hbb, fun s hs => (h1 e.on _ hp (hdeps e he hbb)).2 s (by rw [hp] at hs; exact hs)⟩
    · cases hp : ops[k]? with
      | none => rw [hp] at hk; cases hk
      | some p =>
        rw [hp] at hk
        obtain ⟨e, he, heb⟩ := Array.any_eq_true'.1 hk
        simp only [Bool.and_eq_true, beq_iff_eq] at heb
        obtain ⟨hbb, rfl⟩ := heb
        exact (h1 k p hp hl).1 e he hbb
    · rintro v H'' ⟨hv, rfl⟩
      have hni : ∀ j, l j = true → j ≠ i := fun j hj h => by rw [h, hli] at hj; cases hj
      refine ⟨rfl, fun j p hp hj => ?_, subT_of fun k u hm => ?_⟩
      · by_cases hji : j = i
        · subst hji
          obtain rfl : o = p := Option.some.inj (ho.symm.trans hp)
          refine ⟨fun e he hbb => by show (e.on == j || l e.on) = true; rw [hdeps e he hbb, Bool.or_true], fun s hs => ?_⟩
          rw [hs, getT_put (dstB_spec hd ho hs).1, if_pos rfl, hv (by rw [hs]; rfl)]
        · have hjl : l j = true := by simpa [hji] using hj
          obtain ⟨g1, g4⟩ := h1 j p hp hjl
          refine ⟨fun e he hbb => by show (e.on == i || l e.on) = true; rw [g1 e he hbb, Bool.or_true], fun s hs => ?_⟩
          cases hod : o.dst with
          | none => exact g4 s hs
          | some s' =>
            rw [getT_put (dstB_spec hd ho hod).1, if_neg (fun hss => hji ((dstB_spec hd hp hs).2 i o ho (by rw [hod, hss])))]
            exact g4 s hs
      · have h9 := subT_mem h2 hm
        cases hod : o.dst with
        | none => exact h9
        | some s' =>
          rw [getT_put (dstB_spec hd ho hod).1, if_neg (fun hks => ?_)]
          · exact h9
          · have := List.all_eq_true.1 hTd (k, u) hm
            simp only [Bool.not_eq_true', List.contains_eq_mem, decide_eq_false_iff_not] at this
            exact this (List.mem_filterMap.2 ⟨o, List.mem_of_getElem? (by simpa using ho), by rw [hod, hks]⟩)
  · rintro l T' H' hall hap ⟨rfl, h1, h2⟩
    refine ⟨_, _, List.Perm.refl _, rfl, subT_of fun k u hm => ?_, fin l hall⟩
    rcases dstsL_mem hm with h | ⟨j, o, ho, hs, rfl⟩
    · exact subT_mem h2 h
    · have ho' : ops[j]? = some o := by simpa using ho
      rw [Nat.zero_add]
      exact (h1 j o ho' (hall j (Array.getElem?_eq_some_iff.1 ho').1)).2 k hs
end Go.Ev
set_option linter.unusedSimpArgs false
set_option linter.unusedVariables false
namespace Go.Ev
def Ce.z (k : Ky) : Ce := ⟨k, W.zero, 0, .empty, W.zero⟩
theorem Ce.zL (k : Ky) : k.cells ++ [.int .u64 0, .int .u64 0, .int .u64 0, .int .u64 0, .int .i64 0, .string .empty, .int .u64 0, .int .u64 0, .int .u64 0, .int .u64 0] = (Ce.z k).cells := rfl
attribute [push_cast] Ce.zL
def Ky.zero : Ky := ⟨Ad.zero, false, W.zero⟩
def Ce.sv (k : Ky) (w : W) : Ce := ⟨k, W.zero, 0, .empty, w⟩
def Ce.ac (k : Ky) (b : W) (n : Int) (c : ByteArray) : Ce := ⟨k, b, n, c, W.zero⟩
theorem Ce.z_set4 (k : Ky) (w : W) : List.take 31 (Ce.z k).cells ++ (w.cells ++ List.drop 35 (Ce.z k).cells) = (Ce.sv k w).cells := by
  rw [(Ce.z k).drop35, List.append_nil]
  have e : (Ce.z k).cells = (k.cells ++ [.int .u64 0, .int .u64 0, .int .u64 0, .int .u64 0, .int .i64 0, .string .empty]) ++ W.zero.cells := by
    rw [List.append_assoc]; rfl
  rw [e, List.take_left' (by rw [List.length_append, k.len]; rfl), List.append_assoc]
  rfl
theorem Ce.setBal (c : Ce) (w : W) : List.take 25 c.cells ++ (w.cells ++ List.drop 29 c.cells) = (⟨c.key, w, c.nonce, c.code, c.val⟩ : Ce).cells := by
  rw [c.take25, c.dropk 4]; rfl
theorem Ce.setNon (c : Ce) (n : Int) : List.take 29 c.cells ++ (.int .i64 n :: List.drop 30 c.cells) = (⟨c.key, c.bal, n, c.code, c.val⟩ : Ce).cells := by
  rw [c.dropk 5, show c.cells = (c.key.cells ++ c.bal.cells) ++ (.int .i64 c.nonce :: .string c.code :: c.val.cells) from by rw [List.append_assoc]; rfl, List.take_left' (by rw [List.length_append, c.key.len]; rfl), List.append_assoc]; rfl
theorem Ce.setCod (c : Ce) (s : ByteArray) : List.take 30 c.cells ++ (.string s :: List.drop 31 c.cells) = (⟨c.key, c.bal, c.nonce, s, c.val⟩ : Ce).cells := by
  rw [c.dropk 6, show c.cells = (c.key.cells ++ (c.bal.cells ++ [.int .i64 c.nonce])) ++ (.string c.code :: c.val.cells) from by rw [List.append_assoc, List.append_assoc]; rfl, List.take_left' (by rw [List.length_append, List.length_append, c.key.len]; rfl), List.append_assoc, List.append_assoc]; rfl
theorem useVL {P : Program} {g : FuncId} {args : List Value} (L : Hp) {M : Hp} {Q : Value → Prop} {K' : Value → Hp → Prop} (hc : ∀ M0, roM M0 → cellsAt M0 = cellsAt M → CallsV P g args M0 (fun u N => Q u ∧ N = [])) (hL : freshN L M) (hk : ∀ u, Q u → K' u (L ++ M)) : CallsV P g args (L ++ M) K' :=
  (hc (roAll M) (roAll_ro M) (cellsAt_roAll M)).use (derE_behind hL) (by
    rintro u N ⟨hq, rfl⟩
    exact ⟨trivial, rfl, fun _ => hk u hq⟩)
theorem Ad.k1 (a : Ad) (l : List Value) : List.take 20 (a.cells ++ l) = a.cells := List.take_left' a.len
theorem Ad.k2 (a : Ad) (l : List Value) : List.drop 21 (a.cells ++ l) = List.drop 1 l := by rw [List.drop_append, List.drop_of_length_le (by rw [a.len]; decide), a.len]; rfl
theorem Ad.k3 (a : Ad) (l : List Value) : List.take 21 (a.cells ++ l) = a.cells ++ List.take 1 l := by rw [List.take_append, List.take_of_length_le (by rw [a.len]; decide), a.len]
theorem Ad.k4 (a : Ad) (l : List Value) : List.drop 25 (a.cells ++ l) = List.drop 5 l := by rw [List.drop_append, List.drop_of_length_le (by rw [a.len]; decide), a.len]; rfl
theorem Ad.k5 (a : Ad) (l : List Value) : List.drop 24 (a.cells ++ l) = List.drop 4 l := by rw [List.drop_append, List.drop_of_length_le (by rw [a.len]; decide), a.len]; rfl
theorem Ad.k6 (a : Ad) (b : W) (l : List Value) : List.take 24 (a.cells ++ (b.cells ++ l)) = a.cells ++ b.cells := by rw [← List.append_assoc]; exact List.take_left' (by rw [List.length_append, a.len]; rfl)
theorem Ad.k7 (a : Ad) (b : W) (l : List Value) : List.drop 25 (a.cells ++ (b.cells ++ l)) = List.drop 1 l := by rw [a.k4]; rfl
theorem Ad.k8 (a : Ad) (b : W) (l : List Value) : List.take 25 (a.cells ++ (b.cells ++ l)) = a.cells ++ (b.cells ++ List.take 1 l) := by rw [List.take_append, List.take_of_length_le (by rw [a.len]; decide), a.len]; rfl
theorem Ad.k9 (a : Ad) (b : W) (l : List Value) : List.drop 26 (a.cells ++ (b.cells ++ l)) = List.drop 2 l := by rw [List.drop_append, List.drop_of_length_le (by rw [a.len]; decide), a.len]; rfl
theorem Ky.oT (a : Ad) (q : W) : a.cells ++ .bool true :: q.cells = (⟨a, true, q⟩ : Ky).cells := rfl
theorem Ky.oF (a : Ad) : a.cells ++ [.bool false, .int .u64 0, .int .u64 0, .int .u64 0, .int .u64 0] = (⟨a, false, W.zero⟩ : Ky).cells := rfl
theorem readV_bad {v : Vi} {k : Ky} (h : ¬ RiV v) : readV v k = (Ce.z k, 1) := by unfold readV; rw [if_neg h]; rfl
theorem readV_not {v : Vi} {k : Ky} (h : RiV v) (hk : ¬ v.rd k) : readV v k = (Ce.z k, 30) := h.read0 hk
theorem place_is {L : List Ce} {k : Ky} {i : Nat} {c : Ce} (hs : L.Pairwise fun x y => x.key.lt y.key) (hc : L[i]? = some c) (hk : c.key = k) : cellOf L k = some c := by
  rw [← hk]; exact cellOf_mem hs (List.mem_of_getElem? hc)
theorem place_not {L : List Ce} {k : Ky} {i : Nat} (hs : L.Pairwise fun x y => x.key.lt y.key) (hp : PlaceC L k i) (hn : ¬ ∃ x, L[i]? = some x ∧ x.key = k) : cellOf L k = none := by
  cases h : cellOf L k with
  | none => rfl
  | some c =>
    obtain ⟨h1, h2⟩ := cellOf_some h
    obtain ⟨j, hj⟩ := List.getElem?_of_mem h1
    exfalso
    rcases Nat.lt_trichotomy j i with h3 | h3 | h3
    · exact Ky.lt_ne (hp.lo j c h3 hj) h2
    · subst h3; exact hn ⟨c, hj, h2⟩
    · obtain ⟨y, hy⟩ : ∃ y, L[i]? = some y := ⟨L[i]'(by have := (List.getElem?_eq_some_iff.1 hj).1; omega), List.getElem?_eq_getElem (by have := (List.getElem?_eq_some_iff.1 hj).1; omega)⟩
      exact hp.hi i y (Nat.le_refl _) hy (h2 ▸ pw_at hs h3 hy hj)
theorem readV_is {v : Vi} {k : Ky} {c : Ce} (h : RiV v) (hk : v.rd k) (hc : cellOf v.cells k = some c) : readV v k = (c, 0) := by rw [h.read1 hk, hc]; rfl
theorem readV_none {v : Vi} {k : Ky} (h : RiV v) (hk : v.rd k) (hc : cellOf v.cells k = none) : readV v k = (readB v.base k, 0) := by rw [h.read1 hk, hc]; rfl
end Go.Ev
namespace Go.Proofs.YtincedmdkdjakaaGreat
open Go Go.Ev Go.Proofs
set_option maxRecDepth 100000
set_option maxHeartbeats 4000000
def plRe : Plans := fun i => if i = 1 then [(0, 9)] else if i = 2 then [(0, 9)] else if i = 6 then [(0, 9)] else if i = 9 then [(0, 9)] else if i = 10 then [(0, 9)] else if i = 13 then [] else Tryz.pl51 i
attribute [push_cast] plRe
theorem vread_ok {M : Hp} {x : Vi} {v : Value} {k : Ky} (hv : ViR x v M) (hm : roM M) (hb : x.Fit) : CallsV Tryz.prog 51 [v, k.v] M (Ret0 (.tuple #[(readV x k).1.v, .int .i64 (readV x k).2])) := by
  have hm0 := hm.marks
  have hv0 := hv
  obtain ⟨n1, n2, n3, n4, n5⟩ := hb
  obtain ⟨vb, vr, vw, vc, rfl, h1, h2, h3, h4⟩ := hv
  have hse : SeR x.reads x.writes (.agg #[vr, vw]) M := ⟨vr, vw, rfl, h2, h3⟩
  obtain ⟨pb, kb, rfl⟩ := h1.slice
  obtain ⟨pr, kr, rfl⟩ := LiR.slice h2
  obtain ⟨pw, kw, rfl⟩ := LiR.slice h3
  obtain ⟨pc, kc, rfl, hla⟩ := LiR.openE h4
  refine callsO gU3_ok Tryz.mix plRe Tryz.func51 rfl Tryz.ntmps51 Tryz.results51 rfl (by first | rfl | assumption) (Nat.le_of_ble_eq_true rfl) (by kernel_rfl) ?_
  simp only [push_cast, seval, reduceCtorEq]
  intro b2 hb2 b3 hb3 b4 hb4
  refine regO gU3_ok ?_
  simp only [push_cast, seval, reduceCtorEq, hb3, hb4]
  intro b6 hb6
  refine regO gU3_ok ?_
  simp only [push_cast, seval, reduceCtorEq, hb3, hb4, hb6]
  have f6 : fresh b6 M := hb6.2.2.2.2.2.2
  have f4 : fresh b4 M := hb4.2.2.2.2
  have f3 : fresh b3 M := hb3.2.2
  have hL : ∀ e6 e4 e3 e2 : Ent, e6.blk = b6 → e4.blk = b4 → e3.blk = b3 → e2.blk = b2 → freshN [e6, e4, e3, e2] M := fun e6 e4 e3 e2 h6 h4 h3 h2 => ⟨h6 ▸ f6, h4 ▸ f4, h3 ▸ f3, h2 ▸ hb2, trivial⟩
  refine useP [_, _, _, _] (vright_R hv0 ⟨n1, n2, n3, n4, n5⟩) (hL _ _ _ _ rfl rfl rfl rfl) ?_
  cases hri : pB (RiV x)
  · rw [readV_bad (pB_not.1 hri)]
    simp only [push_cast, seval, reduceCtorEq, hb3, hb4, hb6]
  have hrv := pB_iff.1 hri
  simp only [push_cast, seval, reduceCtorEq, hb3, hb4, hb6]
  refine useP [_, _, _, _] (amay_R hse (by omega) (by omega)) (hL _ _ _ _ rfl rfl rfl rfl) ?_
  rw [mayB_r]
  cases hrd : pB (x.rd k)
  · rw [readV_not hrv (pB_not.1 hrd)]
    simp only [push_cast, seval, reduceCtorEq, hb3, hb4, hb6]
  have hrk := pB_iff.1 hrd
  simp only [push_cast, seval, reduceCtorEq, hb3, hb4, hb6]
  refine regO gU3_ok ?_
  simp only [push_cast, seval, reduceCtorEq, hb3, hb4, hb6]
  refine useVL [_, _, _, _] (Q := fun u => ∃ i, PlaceC x.cells k i ∧ u = .tuple #[.int .i64 i, .bool (decide (∃ y, x.cells[i]? = some y ∧ y.key = k))]) (fun M1 hr1 he1 => vfind_ok (a := Ce.z k) hr1 (by omega) (h4.congr he1.symm) hrv.srt) (hL _ _ _ _ rfl rfl rfl rfl) ?_
  rintro u ⟨i, hi, rfl⟩
  by_cases his : ∃ y, x.cells[i]? = some y ∧ y.key = k
  · have hd : decide (∃ y, x.cells[i]? = some y ∧ y.key = k) = true := decide_eq_true his
    obtain ⟨c, hc, hck⟩ := his
    rw [readV_is hrv hrk (place_is hrv.srt hc hck)]
    rcases hla with hl0 | ⟨b, f', d, kd, cs, rfl, hfe, hat⟩
    · rw [hl0] at hc; simp at hc
    obtain ⟨a1, a2⟩ := hat i c hc
    have hil := (List.getElem?_eq_some_iff.1 hc).1
    have i1 : (i : Int) < (x.cells.length : Int) := by omega
    have e2 := (fresh_findS hb2 hfe).2
    have e3 := (fresh_findS f3 hfe).2
    have e4 := (fresh_findS f4 hfe).2
    have e6 := (fresh_findS f6 hfe).2
    simp only [push_cast, seval, reduceCtorEq, hb3, hb4, hb6, hd, i1, hil, hfe, e2, e3, e4, e6, a1, a2]
  have hd : decide (∃ y, x.cells[i]? = some y ∧ y.key = k) = false := decide_eq_false his
  rw [readV_none hrv hrk (place_not hrv.srt hi his)]
  simp only [push_cast, seval, reduceCtorEq, hb3, hb4, hb6, hd]
  refine regO gU3_ok ?_
  simp only [push_cast, seval, reduceCtorEq, hb3, hb4, hb6]
  refine useL [_, _, _, _] (sfind_ok (a := k.at_) h1 (by omega) (fun y hy => by have := n2 y hy; omega)) (AcR.rd _) hm0 (hL _ _ _ _ rfl rfl rfl rfl) fun w M1 hg1 hL1 hq1 => ?_
  obtain ⟨sv, rfl, hsv⟩ := hq1
  obtain ⟨ps, ks, rfl⟩ := LiR.slice hsv
  simp only [push_cast, seval, reduceCtorEq, hb3, hb4, hb6]
  intro b9 hb9
  refine regO gU3_ok ?_
  cases hs : k.slot
  · have e : readB x.base k = Ce.ac k (findS x.base k.at_).bal (findS x.base k.at_).nonce (findS x.base k.at_).code := by unfold readB Ce.ac; rw [if_neg (by rw [hs]; decide)]
    rw [e]
    simp only [push_cast, seval, reduceCtorEq, hb3, hb4, hb6, hb9, hs]
    have d69 : ¬ b6 = b9 := hb9.2.1
    have d96 : ¬ b9 = b6 := hb9.1
    obtain ⟨X4, hX4⟩ : ∃ X4 : Hp, X4 = ⟨b4, 0, .cel 74, [.int .u8 0, .int .u8 0, .int .u8 0, .int .u8 0, .int .u8 0, .int .u8 0, .int .u8 0, .int .u8 0, .int .u8 0, .int .u8 0, .int .u8 0, .int .u8 0, .int .u8 0, .int .u8 0, .int .u8 0, .int .u8 0, .int .u8 0, .int .u8 0, .int .u8 0, .int .u8 0, .bool false, .int .u64 0, .int .u64 0, .int .u64 0, .int .u64 0, .int .u64 0, .int .u64 0, .int .u64 0, .int .u64 0, .int .i64 0, .string .empty, .int .u64 0, .int .u64 0, .int .u64 0, .int .u64 0]⟩ :: ⟨b3, 0, .cel 45, k.cells⟩ :: ⟨b2, 0, .cel 33, [.slice pb x.base.length kb, .slice pr x.reads.length kr, .slice pw x.writes.length kw, .slice pc x.cells.length kc]⟩ :: M1 := ⟨_, rfl⟩
    rw [← hX4]
    refine drawN gU3_ok Tryz.mix [(4, .pointer (some ⟨b4, 0, none⟩)), (6, .pointer (some ⟨b6, 0, none⟩)), (9, .pointer (some ⟨b9, 0, none⟩))]
        (fun i => match i with
          | 0 => Value.pointer (some ⟨b9, 20, none⟩)
          | 1 => (findS x.base k.at_).bal.v
          | 2 => Value.pointer (some ⟨b9, 24, none⟩)
          | 3 => Value.int .i64 (findS x.base k.at_).nonce
          | 4 => Value.pointer (some ⟨b9, 25, none⟩)
          | 5 => Value.string (findS x.base k.at_).code
          | 6 => Value.pointer (some ⟨b6, 25, none⟩)
          | 8 => Value.pointer (some ⟨b6, 29, none⟩)
          | 10 => Value.pointer (some ⟨b6, 30, none⟩)
          | _ => undef)
        (fun l => ⟨b9, 0, .cel 53, (findS x.base k.at_).cells (.slice ps (findS x.base k.at_).slots.length ks)⟩ :: ⟨b6, 0, .cel 74, (Ce.ac k (if l 7 = true then (findS x.base k.at_).bal else W.zero) (if l 9 = true then (findS x.base k.at_).nonce else 0) (if l 11 = true then (findS x.base k.at_).code else .empty)).cells⟩ :: X4) (by kernel_rfl) (by kernel_rfl) (by simp only [push_cast, seval, reduceCtorEq, subT]) (by kernel_rfl) (by rfl) ?_ ?_
    · intro i o ho l T' hli hdep hcl hT
      have hi := (Array.getElem?_eq_some_iff.1 ho).1
      replace hi : i < 12 := hi
      have t6 : getT T' 6 = some (.pointer (some ⟨b6, 0, none⟩)) := hT.2.1
      have t9 : getT T' 9 = some (.pointer (some ⟨b9, 0, none⟩)) := hT.2.2.1
      obtain rfl | rfl | rfl | rfl | rfl | rfl | rfl | rfl | rfl | rfl | rfl | rfl : i = 0 ∨ i = 1 ∨ i = 2 ∨ i = 3 ∨ i = 4 ∨ i = 5 ∨ i = 6 ∨ i = 7 ∨ i = 8 ∨ i = 9 ∨ i = 10 ∨ i = 11 := by omega
      · simp only [List.getElem?_toArray, List.getElem?_cons_zero, List.getElem?_cons_succ, Option.some.injEq] at ho; subst ho
        simp only [push_cast, seval, reduceCtorEq, t9]
        first | exact rfl | exact ⟨fun _ => rfl, rfl⟩
      · simp only [List.getElem?_toArray, List.getElem?_cons_zero, List.getElem?_cons_succ, Option.some.injEq] at ho; subst ho
        have g0 := (hdep 0 (by kernel_rfl)).2 51 rfl
        simp only [push_cast, seval, reduceCtorEq, g0, d96]
        first | exact rfl | exact ⟨fun _ => rfl, rfl⟩
      · simp only [List.getElem?_toArray, List.getElem?_cons_zero, List.getElem?_cons_succ, Option.some.injEq] at ho; subst ho
        simp only [push_cast, seval, reduceCtorEq, t9]
        first | exact rfl | exact ⟨fun _ => rfl, rfl⟩
      · simp only [List.getElem?_toArray, List.getElem?_cons_zero, List.getElem?_cons_succ, Option.some.injEq] at ho; subst ho
        have g2 := (hdep 2 (by kernel_rfl)).2 53 rfl
        simp only [push_cast, seval, reduceCtorEq, g2, d96]
        first | exact rfl | exact ⟨fun _ => rfl, rfl⟩
      · simp only [List.getElem?_toArray, List.getElem?_cons_zero, List.getElem?_cons_succ, Option.some.injEq] at ho; subst ho
        simp only [push_cast, seval, reduceCtorEq, t9]
        first | exact rfl | exact ⟨fun _ => rfl, rfl⟩
      · simp only [List.getElem?_toArray, List.getElem?_cons_zero, List.getElem?_cons_succ, Option.some.injEq] at ho; subst ho
        have g4 := (hdep 4 (by kernel_rfl)).2 55 rfl
        simp only [push_cast, seval, reduceCtorEq, g4, d96]
        first | exact rfl | exact ⟨fun _ => rfl, rfl⟩
      · simp only [List.getElem?_toArray, List.getElem?_cons_zero, List.getElem?_cons_succ, Option.some.injEq] at ho; subst ho
        simp only [push_cast, seval, reduceCtorEq, t6]
        first | exact rfl | exact ⟨fun _ => rfl, rfl⟩
      · simp only [List.getElem?_toArray, List.getElem?_cons_zero, List.getElem?_cons_succ, Option.some.injEq] at ho; subst ho
        have g6 := (hdep 6 (by kernel_rfl)).2 57 rfl
        have g1 := (hdep 1 (by kernel_rfl)).2 52 rfl
        have l7 : l 7 = false := hli
        have l9 : l 9 = false := Bool.eq_false_iff.2 fun h => by (have := hcl 9 7 (by kernel_rfl) h; rw [hli] at this; cases this)
        have l11 : l 11 = false := Bool.eq_false_iff.2 fun h => by (have := hcl 11 7 (by kernel_rfl) h; rw [hli] at this; cases this)
        simp only [push_cast, seval, reduceCtorEq, g6, g1, l7, l9, l11, d69, Ce.setBal, Bool.or_true, Bool.or_false, Bool.true_or, Bool.false_or, Nat.reduceBEq, beq_self_eq_true, Option.isSome_none, Option.isSome_some, false_implies, true_and, and_true, reduceIte, forall_const]
        rw [show (29 : Nat) = 25 + 4 from rfl, Ce.dropk]; rfl
      · simp only [List.getElem?_toArray, List.getElem?_cons_zero, List.getElem?_cons_succ, Option.some.injEq] at ho; subst ho
        simp only [push_cast, seval, reduceCtorEq, t6]
        first | exact rfl | exact ⟨fun _ => rfl, rfl⟩
      · simp only [List.getElem?_toArray, List.getElem?_cons_zero, List.getElem?_cons_succ, Option.some.injEq] at ho; subst ho
        have g8 := (hdep 8 (by kernel_rfl)).2 58 rfl
        have g3 := (hdep 3 (by kernel_rfl)).2 54 rfl
        have l7 : l 7 = true := (hdep 7 (by kernel_rfl)).1
        have l9 : l 9 = false := hli
        have l11 : l 11 = false := Bool.eq_false_iff.2 fun h => by (have := hcl 11 9 (by kernel_rfl) h; rw [hli] at this; cases this)
        simp only [push_cast, seval, reduceCtorEq, g8, g3, l7, l9, l11, d69, Ce.setNon, Bool.or_true, Bool.or_false, Bool.true_or, Bool.false_or, Nat.reduceBEq, beq_self_eq_true, Option.isSome_none, Option.isSome_some, false_implies, true_and, and_true, reduceIte, forall_const]
        rfl
      · simp only [List.getElem?_toArray, List.getElem?_cons_zero, List.getElem?_cons_succ, Option.some.injEq] at ho; subst ho
        simp only [push_cast, seval, reduceCtorEq, t6]
        first | exact rfl | exact ⟨fun _ => rfl, rfl⟩
      · simp only [List.getElem?_toArray, List.getElem?_cons_zero, List.getElem?_cons_succ, Option.some.injEq] at ho; subst ho
        have g10 := (hdep 10 (by kernel_rfl)).2 59 rfl
        have g5 := (hdep 5 (by kernel_rfl)).2 56 rfl
        have l7 : l 7 = true := (hdep 7 (by kernel_rfl)).1
        have l9 : l 9 = true := (hdep 9 (by kernel_rfl)).1
        have l11 : l 11 = false := hli
        simp only [push_cast, seval, reduceCtorEq, g10, g5, l7, l9, l11, d69, Ce.setCod, Bool.or_true, Bool.or_false, Bool.true_or, Bool.false_or, Nat.reduceBEq, beq_self_eq_true, Option.isSome_none, Option.isSome_some, false_implies, true_and, and_true, reduceIte, forall_const]
        rfl
    · intro l hall
      have l7 : l 7 = true := hall 7 (by decide)
      have l9 : l 9 = true := hall 9 (by decide)
      have l11 : l 11 = true := hall 11 (by decide)
      subst hX4
      simp only [push_cast, seval, reduceCtorEq, l7, l9, l11, hb3, hb4, hb6, hb9, d69, d96, Bool.or_true, reduceIte]
  · have e : readB x.base k = Ce.sv k (getW (findS x.base k.at_).slots k.key) := by unfold readB Ce.sv; rw [if_pos hs]
    rw [e]
    simp only [push_cast, seval, reduceCtorEq, hb3, hb4, hb6, hb9, hs]
    have hgm := hg1.marks
    have f9 : fresh b9 M1 := hb9.2.2.2.2.2.2.2.2
    have hL9 : ∀ e9 e6 e4 e3 e2 : Ent, e9.blk = b9 → e6.blk = b6 → e4.blk = b4 → e3.blk = b3 → e2.blk = b2 → freshN [e9, e6, e4, e3, e2] M1 := fun e9 e6 e4 e3 e2 h9 h6 h4 h3 h2 => ⟨h9 ▸ f9, h6 ▸ hL1.1, h4 ▸ hL1.2.1, h3 ▸ hL1.2.2.1, h2 ▸ hL1.2.2.2.1, trivial⟩
    refine useP [_, _, _, _, _] (get_R hsv (by have := (mayA_slots (hrv.st.findMay k.at_)).len; omega)) (hL9 _ _ _ _ _ rfl rfl rfl rfl rfl) ?_
    have ez := Ce.z_set4 k (getW (findS x.base k.at_).slots k.key)
    rw [(Ce.z k).drop35, List.append_nil] at ez
    simp only [push_cast, seval, reduceCtorEq, hb3, hb4, hb6, hb9, ez]
theorem vread_R {M : Hp} {x : Vi} {v : Value} {k : Ky} (hv : ViR x v M) (hb : x.Fit) : ∀ M0, roM M0 → cellsAt M0 = cellsAt M → CallsV Tryz.prog 51 [v, k.v] M0 (Ret0 (.tuple #[(readV x k).1.v, .int .i64 (readV x k).2])) :=
  fun _ hr he => vread_ok (ViR.rd _ _ _ _ he.symm hv) hr hb
theorem vslot_ok {M : Hp} {x : Vi} {v : Value} {a : Ad} {q : W} (hv : ViR x v M) (hm : roM M) (hb : x.Fit) : CallsV Tryz.prog 17 [v, a.v, q.v] M (Ret0 (.tuple #[(slotV x a q).1.v, .int .i64 (slotV x a q).2])) := by
  have hm0 := hm.marks
  have hv0 := hv
  obtain ⟨vb, vr, vw, vc, rfl, h1, h2, h3, h4⟩ := hv
  obtain ⟨pb, kb, rfl⟩ := h1.slice
  obtain ⟨pr, kr, rfl⟩ := LiR.slice h2
  obtain ⟨pw, kw, rfl⟩ := LiR.slice h3
  obtain ⟨pc, kc, rfl⟩ := LiR.slice h4
  unfold slotV
  refine callsO gU3_ok Tryz.mix (fun i => if i = 1 then [(0, 9)] else Tryz.pl17 i) Tryz.func17 rfl Tryz.ntmps17 Tryz.results17 rfl (by first | rfl | assumption) (Nat.le_of_ble_eq_true rfl) (by kernel_rfl) ?_
  simp only [push_cast, seval, reduceCtorEq]
  intro b3 hb3 b4 hb4 b5 hb5 b6 hb6
  refine regO gU3_ok ?_
  simp only [push_cast, seval, reduceCtorEq, hb3, hb4, hb5, hb6, Ad.k1, Ad.k2, Ad.k3, Ad.k4, Ky.oT]
  refine useP [_, _, _, _] (vread_R hv0 hb) ⟨hb6.2.2.2.2.2.2, hb5.2.2.2.2, hb4.2.2, hb3, trivial⟩ ?_
  simp only [push_cast, seval, reduceCtorEq, hb3, hb4, hb5, hb6]
  intro b8 hb8
  simp only [push_cast, seval, reduceCtorEq, hb3, hb4, hb5, hb6, hb8]
theorem vslot_R {M : Hp} {x : Vi} {v : Value} {a : Ad} {q : W} (hv : ViR x v M) (hb : x.Fit) : ∀ M0, roM M0 → cellsAt M0 = cellsAt M → CallsV Tryz.prog 17 [v, a.v, q.v] M0 (Ret0 (.tuple #[(slotV x a q).1.v, .int .i64 (slotV x a q).2])) :=
  fun _ hr he => vslot_ok (ViR.rd _ _ _ _ he.symm hv) hr hb
theorem vaccount_ok {M : Hp} {x : Vi} {v : Value} {a : Ad} (hv : ViR x v M) (hm : roM M) (hb : x.Fit) : CallsV Tryz.prog 16 [v, a.v] M (Ret0 (.tuple #[.agg ((accV x a).1.cells (.slice none 0 0)).toArray, .int .i64 (accV x a).2])) := by
  have hm0 := hm.marks
  have hv0 := hv
  obtain ⟨vb, vr, vw, vc, rfl, h1, h2, h3, h4⟩ := hv
  obtain ⟨pb, kb, rfl⟩ := h1.slice
  obtain ⟨pr, kr, rfl⟩ := LiR.slice h2
  obtain ⟨pw, kw, rfl⟩ := LiR.slice h3
  obtain ⟨pc, kc, rfl⟩ := LiR.slice h4
  unfold accV
  refine callsO gU3_ok Tryz.mix (fun i => if i = 1 then [(0, 9)] else Tryz.pl16 i) Tryz.func16 rfl Tryz.ntmps16 Tryz.results16 rfl (by first | rfl | assumption) (Nat.le_of_ble_eq_true rfl) (by kernel_rfl) ?_
  simp only [push_cast, seval, reduceCtorEq]
  intro b2 hb2 b3 hb3 b4 hb4
  refine regO gU3_ok ?_
  simp only [push_cast, seval, reduceCtorEq, hb3, hb4, Ky.oF]
  refine useP [_, _, _] (vread_R hv0 hb) ⟨hb4.2.2.2.2, hb3.2.2, hb2, trivial⟩ ?_
  simp only [push_cast, seval, reduceCtorEq, hb3, hb4]
  intro b6 hb6
  obtain ⟨c, e, hce⟩ : ∃ c e, readV x ⟨a, false, W.zero⟩ = (c, e) := ⟨_, _, rfl⟩
  rw [hce]
  by_cases h0 : e = 0
  · rw [if_pos h0]
    subst h0
    have eo : a.cells ++ (c.bal.cells ++ [.int .i64 c.nonce, .string c.code, .slice none 0 0]) = (⟨a, c.bal, c.nonce, c.code, []⟩ : Ac).cells (.slice none 0 0) := rfl
    simp only [push_cast, seval, reduceCtorEq, hb3, hb4, hb6, Ad.k1, Ad.k5, Ad.k6, Ad.k7, Ad.k8, Ad.k9, eo]
  · rw [if_neg h0]
    have h1 : (e != 0) = true := bne_iff_ne.2 h0
    simp only [push_cast, seval, reduceCtorEq, hb3, hb4, hb6, h1]
    rfl
theorem vaccount_R {M : Hp} {x : Vi} {v : Value} {a : Ad} (hv : ViR x v M) (hb : x.Fit) : ∀ M0, roM M0 → cellsAt M0 = cellsAt M → CallsV Tryz.prog 16 [v, a.v] M0 (Ret0 (.tuple #[.agg ((accV x a).1.cells (.slice none 0 0)).toArray, .int .i64 (accV x a).2])) :=
  fun _ hr he => vaccount_ok (ViR.rd _ _ _ _ he.symm hv) hr hb
end Go.Proofs.YtincedmdkdjakaaGreat
set_option linter.unusedSimpArgs false
set_option linter.unusedVariables false
namespace Go.Ev
end Go.Ev
namespace Go.Proofs.YtincedmdkdjakaaGreat
open Go Go.Ev Go.Proofs
set_option maxRecDepth 100000
set_option maxHeartbeats 4000000
end Go.Proofs.YtincedmdkdjakaaGreat
set_option linter.unusedSimpArgs false
set_option linter.unusedVariables false
namespace Go.Ev
def VeR (r : Vi × Int) : Value → Hp → Prop := fun v H => ∃ u, v = .tuple #[u, .int .i64 r.2] ∧ ViR r.1 u H
theorem VeR.rd (r : Vi × Int) : RdOnly (VeR r) := by
  rintro v A B h ⟨u, rfl, hu⟩
  exact ⟨u, rfl, ViR.rd _ _ _ _ h hu⟩
theorem openV_bad {s : List Ac} {R W' : List Ky} (h : ¬ RiV ⟨s, R, W', []⟩) : openV s R W' = (⟨[], [], [], []⟩, 1) := by unfold openV; rw [if_neg h]
theorem openV_ok {s : List Ac} {R W' : List Ky} (h : RiV ⟨s, R, W', []⟩) : openV s R W' = (⟨s, R, W', []⟩, 0) := by unfold openV; rw [if_pos h]
theorem ViR.nil (H : Hp) : ViR ⟨[], [], [], []⟩ (.agg #[.slice none 0 0, .slice none 0 0, .slice none 0 0, .slice none 0 0]) H := ⟨_, _, _, _, rfl, StR.nil H 0, LiR.nil H 0, LiR.nil H 0, LiR.nil H 0⟩
end Go.Ev
namespace Go.Proofs.YtincedmdkdjakaaGreat
open Go Go.Ev Go.Proofs
set_option maxRecDepth 100000
set_option maxHeartbeats 4000000
theorem vopen_ok {M : Hp} {s : List Ac} {R W' : List Ky} {vb vs : Value} (h1 : StR s vb M) (h2 : SeR R W' vs M) (hb : Vi.Fit ⟨s, R, W', []⟩) : CallsR Tryz.prog 26 [vb, vs] M (VeR (openV s R W')) := by
  intro M0 hr he
  have hm := hr.marks
  replace h1 := StR.rd _ _ _ _ he.symm h1
  replace h2 := SeR.rd _ _ _ _ _ he.symm h2
  obtain ⟨vr, vw, rfl, h2, h3⟩ := h2
  obtain ⟨pb, kb, rfl⟩ := h1.slice
  obtain ⟨pr, kr, rfl⟩ := LiR.slice h2
  obtain ⟨pw, kw, rfl⟩ := LiR.slice h3
  refine callsO gU3_ok Tryz.mix (fun i => if i = 1 then [(0, 9)] else Tryz.pl26 i) Tryz.func26 rfl Tryz.ntmps26 Tryz.results26 rfl (by first | rfl | assumption) (Nat.le_of_ble_eq_true rfl) (by kernel_rfl) ?_
  simp only [push_cast, seval, reduceCtorEq]
  intro b3 hb3 b4 hb4
  refine regO gU3_ok ?_
  have f3 : fresh b3 M0 := hb3
  have f4 : fresh b4 M0 := hb4.2.2
  simp only [push_cast, seval, reduceCtorEq, hb4]
  refine useL [_, _] (vown_R (x := ⟨s, R, W', []⟩) ⟨_, _, _, _, rfl, h1, h2, h3, LiR.nil M0 0⟩ hb) (ViR.rd _) hm ⟨f4, f3, trivial⟩ fun u M1 hg1 hL1 hq1 => ?_
  have hq0 := hq1
  obtain ⟨ub, ur, uw, uc, rfl, g1, g2, g3, g4⟩ := hq1
  obtain ⟨qb, lb, rfl⟩ := StR.slice g1
  obtain ⟨qr, lr, rfl⟩ := LiR.slice g2
  obtain ⟨qw, lw, rfl⟩ := LiR.slice g3
  obtain ⟨qc, lc, rfl⟩ := LiR.slice g4
  simp only [push_cast, seval, reduceCtorEq, hb4]
  intro b6 hb6
  refine useP [_, _, _] (vright_R hq0 hb) ⟨hb6.2.2.2.2, hL1⟩ ?_
  cases hri : pB (RiV ⟨s, R, W', []⟩)
  · rw [openV_bad (pB_not.1 hri)]
    simp only [push_cast, seval, reduceCtorEq, hb4, hb6]
    exact doneK2 [_, _, _] hg1 (VeR.rd _) ⟨_, rfl, ViR.nil _⟩
  · rw [openV_ok (pB_iff.1 hri)]
    simp only [push_cast, seval, reduceCtorEq, hb4, hb6]
    exact doneK2 [_, _, _] hg1 (VeR.rd _) ⟨_, rfl, hq0⟩
end Go.Proofs.YtincedmdkdjakaaGreat
set_option linter.unusedSimpArgs false
set_option linter.unusedVariables false
namespace Go.Proofs.YtincedmdkdjakaaGreat
open Go Go.Ev Go.Proofs
set_option maxRecDepth 100000
set_option maxHeartbeats 4000000
theorem ovMC_ok (args : List Value) (H : Hp) (v : Value) (h : ovM args H = some v) : ExtM Tryz.prog 129 args H v := by
  intro w0 mu w hs
  rw [run_callFunc_extern Tryz.func129 (by kernel_rfl) (by kernel_rfl) (by kernel_rfl) (e := Extern.SlicesOverlaps.overlaps #[31, 31] #[4]) (by kernel_rfl)]
  rw [ovM_run (P := Tryz.prog) h (e := 74) (by kernel_rfl) (size := 35) (fun w => by rfl) hs]
  rfl
noncomputable def gU4 : Gam := (addM 129 ovM gU3)
attribute [push_cast] gU4
theorem gU4_ok : GamOk Tryz.prog gU4 := (addM_ok ovMC_ok gU3_ok)
def plInsC : Plans := fun i => if i = 9 then [(0, 9)] else if i = 10 then [(0, 9)] else if i = 13 then [(0, 9)] else Tryz.pl110 i
attribute [push_cast] plInsC
theorem insertC_ok {P R : List Ce} {z : Ce} {b b2 c n p q k2 : Nat} (hp : P.length = p) (hq : R.length = q) (hnn : n = p + q) (hc : n ≤ c) (hn : n ≤ 1000000000) (hb : ¬ b = b2) :
    CallsV Tryz.prog 110 [.slice (some ⟨b, 0, none⟩) n c, .int .i64 p, .slice (some ⟨b2, 0, none⟩) 1 k2] [⟨b, 0, .vec 74 35 c, (P ++ R).flatMap Ce.cells⟩, ⟨b2, 0, .vec 74 35 1, z.cells⟩]
      (fun v N => OutG 74 35 ((P ++ z :: R).flatMap Ce.cells) (n + 1) v N) := by
  have hlP : (P.flatMap Ce.cells).length = p * 35 := by rw [← hp]; exact flatMap_len (fun y => y.len) _
  have hlR : (R.flatMap Ce.cells).length = q * 35 := by rw [← hq]; exact flatMap_len (fun y => y.len) _
  have hlx : (z.cells).length = 35 := z.len
  have e0 : (P ++ z :: R).flatMap Ce.cells = P.flatMap Ce.cells ++ (z.cells ++ R.flatMap Ce.cells) := by rw [List.flatMap_append, List.flatMap_cons]
  have e1 : (P ++ R).flatMap Ce.cells = P.flatMap Ce.cells ++ R.flatMap Ce.cells := List.flatMap_append
  have hoP := ceAll P
  have hoR := ceAll R
  have hoz : (z.cells).all oneC = true := z.all1
  rw [e0, e1]
  generalize P.flatMap Ce.cells = A at *
  generalize R.flatMap Ce.cells = B at *
  generalize z.cells = X at *
  have hb' : ¬ b2 = b := fun h => hb h.symm
  have i1 : (p : Int) ≤ (n : Int) := by omega
  have i2 : (0 : Int) ≤ (p : Int) := by omega
  have i3 : p ≤ n := by omega
  have i4 : List.take 35 X = X := List.take_of_length_le (by omega)
  have i5 : A.length + B.length = n * 35 := by omega
  refine CallsV.less (K := fun v N => OutG 74 35 (A ++ (X ++ B)) (n + 1) v N ∨ ∃ ys, n + 1 ≤ c ∧ v = .slice (some ⟨b, 0, none⟩) (n + 1) c ∧ N = [⟨b, 0, .vec 74 35 c, (A ++ (X ++ B)) ++ ys⟩]) ?_ (by
    rintro v N (h | ⟨ys, h1, rfl, rfl⟩)
    · exact ⟨N, Less.refl _, rfl, h⟩
    · exact ⟨_, less_vec, rfl, .inr ⟨b, c, rfl, h1, by rw [List.length_append, List.length_append]; omega, rfl⟩⟩)
  refine callsO gU4_ok Tryz.mix plInsC Tryz.func110 rfl Tryz.ntmps110 Tryz.results110 rfl (by first | rfl | assumption) (Nat.le_of_ble_eq_true rfl) (by kernel_rfl) ?_
  rcases Nat.eq_zero_or_pos q with h0 | h0
  · obtain rfl : q = 0 := h0
    obtain rfl : B = [] := List.length_eq_zero_iff.1 (by omega)
    obtain rfl : p = n := by omega
    have j0 : ((p : Int) == (p : Int)) = true := beq_self_eq_true _
    rw [List.length_nil, Nat.add_zero] at i5
    simp only [push_cast, seval, reduceCtorEq, i1, i3, hb, hb', j0, hlx, i4, i5, hoz]
    refine ⟨by unfold two47; omega, fun b' c' hbb hcc => ?_⟩
    exact ⟨[_], (List.nil_sublist _).cons_cons _, .inl (.inr ⟨b', c', rfl, hcc, by rw [List.length_append]; omega, rfl⟩)⟩
  · have j0 : ((p : Int) == (n : Int)) = false := by rw [beq_eq_false_iff_ne]; omega
    have j1 : (n : Int) + 1 ≤ 9223372036854775807 := by omega
    have k2 : ¬ c = 0 := by omega
    rcases Nat.lt_or_ge c (n + 1) with h1 | h1
    · have j2 : (c : Int) < (n : Int) + 1 := by omega
      have k1 : (n : Int) + 1 - (p : Int) = (q : Int) + 1 := by omega
      have k3 : ((q : Int) + 1).toNat = q + 1 := by omega
      have k4 : c < p + (q + 1) := by omega
      have k5 : (p + (q + 1)) * 144 ≤ two47 := by unfold two47; omega
      have k6 : p * 35 ≤ A.length + B.length := by omega
      have k7 : List.take (p * 35) (A ++ B) = A := List.take_left' hlP
      have k8 : p ≤ c := by omega
      have k9 : (0 : Int) < (q : Int) + 1 := by omega
      simp only [push_cast, seval, reduceCtorEq, i1, i3, hb, hb', j0, wrap_i64' (show -9223372036854775808 ≤ (n : Int) + 1 ∧ (n : Int) + 1 ≤ 9223372036854775807 by omega), j2]
      refine regO gU4_ok ?_
      simp only [push_cast, seval, reduceCtorEq, i1, i3, hb, hb', wrap_i64' (show -9223372036854775808 ≤ (n : Int) + 1 ∧ (n : Int) + 1 ≤ 9223372036854775807 by omega), k1, wrap_i64' (show -9223372036854775808 ≤ (q : Int) + 1 ∧ (q : Int) + 1 ≤ 9223372036854775807 by omega), k2, k3, k4, k5, k6, k7, k8, k9]
      intro b3 c3 hb3 hc3
      generalize hZ : repL (q + 1) _ = Z
      have hZl : Z.length = (q + 1) * 35 := by rw [← hZ, repL_len]; rfl
      refine regO gU4_ok ?_
      have m1 : ¬ c3 = p := by omega
      have m2 : min 1 (q + 1) = 1 := by omega
      have m3 : p * 35 + 35 ≤ A.length + Z.length := by omega
      have m4 : List.take (p * 35) (A ++ Z) = A := List.take_left' hlP
      have m5 : List.drop (p * 35 + 35) (A ++ Z) = List.drop 35 Z := by rw [← hlP, List.drop_length_add_append]
      obtain ⟨Y, hY⟩ : ∃ Y, Y = List.drop 35 Z := ⟨_, rfl⟩
      have hYl : Y.length = q * 35 := by rw [hY, List.length_drop]; omega
      have m6 : p + (q + 1) - p = q + 1 := by omega
      have m7 : p ≤ p + (q + 1) := by omega
      have m8 : (p : Int) ≤ (p : Int) + ((q : Int) + 1) := by omega
      have n1 : (p : Int) + 1 ≤ (p : Int) + ((q : Int) + 1) := by omega
      have n2 : (0 : Int) ≤ (p : Int) + 1 := by omega
      have n3 : ((p : Int) + 1).toNat = p + 1 := by omega
      have n4 : ¬ c3 = p + 1 := by omega
      have n5 : p + (q + 1) - (p + 1) = q := by omega
      have n6 : n - p = q := by omega
      have n7 : min q q = q := Nat.min_self q
      have n8 : ¬ c = p := by omega
      have n9 : List.drop (p * 35) (A ++ B) = B := List.drop_left' hlP
      have o1 : List.take (q * 35) B = B := List.take_of_length_le (by omega)
      have o2 : p * 35 + q * 35 ≤ A.length + q * 35 := by omega
      have o3 : ¬ q = 0 := by omega
      have o4 : (p + 1) * 35 + q * 35 ≤ A.length + (35 + Y.length) := by omega
      have o5 : List.take ((p + 1) * 35) (A ++ (X ++ Y)) = A ++ X := by
        rw [← List.append_assoc]
        exact List.take_left' (by rw [List.length_append]; omega)
      have o6 : List.drop ((p + 1) * 35 + q * 35) (A ++ (X ++ Y)) = [] := List.drop_of_length_le (by rw [List.length_append, List.length_append]; omega)
      simp only [push_cast, seval, reduceCtorEq, hb, hb', hb3, m1, m2, m3, m4, m5, ← hY, m6, m7, m8, hlx, i4, hoz, wrap_i64' (show -9223372036854775808 ≤ (p : Int) + 1 ∧ (p : Int) + 1 ≤ 9223372036854775807 by omega), n1, n2, n3, n4, n5, n6, n7, n8, n9, i3, o1, o2, o3, h0, hoR, hlR, o4, o5, o6]
      refine ⟨[_], (List.nil_sublist _).cons_cons _, .inl (.inr ⟨b3, c3, by rw [show p + (q + 1) = n + 1 by omega], by omega, by simp only [List.length_append]; omega, rfl⟩)⟩
    · have j2 : ¬ (c : Int) < (n : Int) + 1 := by omega
      simp only [push_cast, seval, reduceCtorEq, i1, i3, hb, hb', j0, wrap_i64' (show -9223372036854775808 ≤ (n : Int) + 1 ∧ (n : Int) + 1 ≤ 9223372036854775807 by omega), j2]
      refine fullV fun ys hys => ?_
      rw [List.append_assoc] at hys ⊢
      have hyl : A.length + (B.length + ys.length) = c * 35 := by rw [← hys, List.length_append, List.length_append]
      refine regO gU4_ok ?_
      have m1 : (n : Int) + 1 ≤ (c : Int) := by omega
      have m2 : (0 : Int) ≤ (n : Int) + 1 := by omega
      have m3 : ((n : Int) + 1).toNat = n + 1 := by omega
      have m4 : n + 1 ≤ c := h1
      have n1 : (p : Int) + 1 ≤ (n : Int) + 1 := by omega
      have n2 : (0 : Int) ≤ (p : Int) + 1 := by omega
      have n3 : ((p : Int) + 1).toNat = p + 1 := by omega
      have n4 : ¬ c = p + 1 := by omega
      have n5 : n + 1 - (p + 1) = q := by omega
      have n6 : n + 1 - p = q + 1 := by omega
      have n7 : min (q + 1) q = q := by omega
      have n8 : ¬ c = p := by omega
      have n9 : List.drop (p * 35) (A ++ (B ++ ys)) = B ++ ys := List.drop_left' hlP
      have o1 : List.take (q * 35) (B ++ ys) = B := List.take_left' hlR
      have o2 : p * 35 + q * 35 ≤ A.length + (q * 35 + ys.length) := by omega
      have o3 : ¬ q = 0 := by omega
      have o4 : (p + 1) * 35 + q * 35 ≤ A.length + (q * 35 + ys.length) := by omega
      have o7 : ¬ (A.length + (q * 35 + ys.length) = 0) := by omega
      obtain ⟨T1, hT1⟩ : ∃ T, T = List.take ((p + 1) * 35) (A ++ (B ++ ys)) := ⟨_, rfl⟩
      obtain ⟨U, hU⟩ : ∃ U, U = List.drop ((p + 1) * 35 + q * 35) (A ++ (B ++ ys)) := ⟨_, rfl⟩
      have hTl : T1.length = (p + 1) * 35 := by rw [hT1, List.length_take, List.length_append, List.length_append]; omega
      have q1 : List.take (p * 35) (T1 ++ (B ++ U)) = A := by
        rw [List.take_append_of_le_length (by omega), hT1, List.take_take, Nat.min_eq_left (by omega)]
        exact List.take_left' hlP
      have q2 : List.drop (p * 35 + 35) (T1 ++ (B ++ U)) = B ++ U := List.drop_left' (by omega)
      have q3 : p * 35 + 35 ≤ T1.length + (q * 35 + U.length) := by omega
      have q4 : min 1 (q + 1) = 1 := by omega
      simp only [push_cast, seval, reduceCtorEq, hb, hb', k2, wrap_i64' (show -9223372036854775808 ≤ (n : Int) + 1 ∧ (n : Int) + 1 ≤ 9223372036854775807 by omega), m1, m2, m3, m4, wrap_i64' (show -9223372036854775808 ≤ (p : Int) + 1 ∧ (p : Int) + 1 ≤ 9223372036854775807 by omega), n1, n2, n3, n4, n5, n6, n7, n8, n9, i3, o1, o2, o3, h0, hoR, hlR, o4, o7, ← hT1, ← hU, q1, q2, q3, q4, hlx, i4, hoz, i1]
      exact ⟨[_], (List.nil_sublist _).cons_cons _, .inr ⟨U, rfl⟩⟩
theorem insertC0_ok {z : Ce} {b2 k2 : Nat} :
    CallsV Tryz.prog 110 [.slice none 0 0, .int .i64 0, .slice (some ⟨b2, 0, none⟩) 1 k2] [⟨b2, 0, .vec 74 35 1, z.cells⟩]
      (fun v N => OutG 74 35 ([z].flatMap Ce.cells) 1 v N) := by
  have hoz : (z.cells).all oneC = true := z.all1
  refine callsO gU4_ok Tryz.mix Tryz.pl110 Tryz.func110 rfl Tryz.ntmps110 Tryz.results110 rfl (by first | rfl | assumption) (Nat.le_of_ble_eq_true rfl) (by kernel_rfl) ?_
  simp only [push_cast, seval, reduceCtorEq, hoz, beq_self_eq_true]
  refine ⟨by unfold two47; decide, fun b' c' hbb hcc => ?_⟩
  refine ⟨[_], (List.nil_sublist _).cons_cons _, .inr ⟨b', c', rfl, hcc, ?_, ?_⟩⟩
  · rw [List.flatMap_cons, List.flatMap_nil, List.append_nil, Ce.len]
  · rw [List.flatMap_cons, List.flatMap_nil, List.append_nil]
end Go.Proofs.YtincedmdkdjakaaGreat
