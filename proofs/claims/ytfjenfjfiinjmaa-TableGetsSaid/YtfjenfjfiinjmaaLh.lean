/- Lh: TableGets: the walk. -/
import Derived.Test.YtfjenfjfiinjmaaLg
set_option linter.unusedSimpArgs false
set_option linter.unusedVariables false
namespace Go.Ev
theorem at_open {H : Hp} {b o n : Nat} {cs : List Value} (h : cellsAt H b o n = some cs) : ∃ e, findE H b = some e ∧ e.off ≤ o ∧ o - e.off + n ≤ e.cells.length ∧ List.take n (List.drop (o - e.off) e.cells) = cs := by
  unfold cellsAt at h
  split at h
  case h_2 => cases h
  rename_i e he
  split at h
  case isFalse => cases h
  rename_i ho
  unfold subL at h
  split at h
  case isFalse => cases h
  rename_i hl
  exact ⟨e, he, ho, hl, Option.some.inj h⟩
theorem SlR.here {H : Hp} {l : List Sl} {b o n c : Nat} (h : SlR H l (.slice (some ⟨b, o, none⟩) n c)) (hn : l ≠ []) : ∃ e, findE H b = some e ∧ ∀ (i : Nat) (x : Sl), l[i]? = some x →
    e.off ≤ o + i * 8 ∧ e.off ≤ o + i * 8 + 4 ∧ o + i * 8 - e.off + 8 ≤ e.cells.length ∧ o + i * 8 - e.off + 4 ≤ e.cells.length ∧ o + i * 8 + 4 - e.off + 4 ≤ e.cells.length ∧
    List.take 8 (List.drop (o + i * 8 - e.off) e.cells) = x.cells ∧ List.take 4 (List.drop (o + i * 8 - e.off) e.cells) = x.key.cells ∧ List.take 4 (List.drop (o + i * 8 + 4 - e.off) e.cells) = x.val.cells := by
  rcases h.open with ⟨h0, _⟩ | ⟨b', o', c', e, hv, he, hx⟩
  · exact absurd h0 hn
  · cases hv; exact ⟨e, he, hx⟩
end Go.Ev
namespace Go.Proofs.Ytfjenfjfiinjmaa
open Go Go.Ev Go.Proofs
set_option maxRecDepth 100000
set_option maxHeartbeats 4000000
theorem put_use2 {H : Hp} {l : List Sl} {v : Value} {k w : W} {K' : Value → Hp → Prop} (hm : marksOf H = []) (hl : SlR H l v) (hk : ∀ w' H', subH H' H → Ext H H' → SlR H' (mergeR l [⟨k, w⟩]).1 w' → K' (.tuple #[w', .int .i64 (mergeR l [⟨k, w⟩]).2]) H') :
    CallsV Try.prog 17 [v, k.v, w.v] H K' := by
  obtain ⟨Hf, h1, h2⟩ := hl.h
  refine (put_ok h1.der h1.marks h1.r).use h2 ?_
  rintro _ N ⟨w', rfl, ho⟩
  exact ⟨ho.wr.1, ho.wr.2, fun hf => hk w' _ (subH_new H N fun e he x hx => freshN_ne hf e he x hx) (ho.ext hm hf).1 (ho.ext hm hf).2⟩
theorem tableGets_ok {H : Hp} {one two : List (Int × Int)} {v u : Value} {key val : W} (hm : marksOf H = []) (h1 : PrR H one v) (h2 : PrR H two u) (b1 : rawOk one) (b2 : rawOk two) :
    CallsV Try.prog 5 [v, u, key.v, val.v] H (Ret0 (.bool true)) := by
  have ra := slotsL_ri one
  have la := (slotsL_len false one).1
  obtain ⟨lb, sb⟩ := slotsL_len true two
  obtain ⟨a, ea⟩ : ∃ a, a = slotsL false (one.take 20) [] := ⟨_, rfl⟩
  obtain ⟨b, eb⟩ : ∃ b, b = slotsL true (two.take 20) [] := ⟨_, rfl⟩
  rw [← ea] at ra la
  rw [← eb] at sb lb
  have rp := merge_ri ra (srt_one ⟨key, val⟩) (by simp; omega)
  have hgp : getW (mergeL a [⟨key, val⟩]) key = val := merge_get ra (srt_one ⟨key, val⟩) (x := ⟨key, val⟩) (by simp)
  have lp := (joinS_bound a [⟨key, val⟩]).1
  have lm := (joinS_bound a b).1
  refine callsO gD_ok Try.mix Try.pl5 Try.func5 rfl Try.ntmps5 Try.results5 rfl (by first | rfl | assumption) (Nat.le_of_ble_eq_true rfl) (by kernel_rfl) ?_
  simp only [push_cast, Nat.reduceAdd, Nat.reduceSub, Nat.reduceMul, Nat.reduceLT, Nat.reduceLeDiff, Nat.reduceEqDiff, Nat.reduceMod, Nat.reduceDiv, Int.reduceAdd, Int.reduceSub, Int.reduceMul, Int.reduceLT, Int.reduceLE, Int.reduceEq, Int.reduceNeg, Int.reduceToNat, reduceIte, reduceCtorEq]
  intro b6 hb6 b7 hb7
  have x0 := Ext.cons (e := ⟨b6, 0, .cel 26, key.cells⟩) hm rfl hb6
  have x1 := Ext.cons (e := ⟨b7, 0, .cel 26, val.cells⟩) x0.marks rfl ⟨hb7.1, hb7.2.1, hb7.2.2⟩
  have k6 : cellsAt (⟨b7, 0, .cel 26, val.cells⟩ :: ⟨b6, 0, .cel 26, key.cells⟩ :: H) b6 0 4 = some key.cells := by simp only [push_cast, Nat.reduceAdd, Nat.reduceSub, Nat.reduceMul, Nat.reduceLT, Nat.reduceLeDiff, Nat.reduceEqDiff, Nat.reduceMod, Nat.reduceDiv, Int.reduceAdd, Int.reduceSub, Int.reduceMul, Int.reduceLT, Int.reduceLE, Int.reduceEq, Int.reduceNeg, Int.reduceToNat, reduceIte, reduceCtorEq, hb7]
  have k7 : cellsAt (⟨b7, 0, .cel 26, val.cells⟩ :: ⟨b6, 0, .cel 26, key.cells⟩ :: H) b7 0 4 = some val.cells := by simp only [push_cast, Nat.reduceAdd, Nat.reduceSub, Nat.reduceMul, Nat.reduceLT, Nat.reduceLeDiff, Nat.reduceEqDiff, Nat.reduceMod, Nat.reduceDiv, Int.reduceAdd, Int.reduceSub, Int.reduceMul, Int.reduceLT, Int.reduceLE, Int.reduceEq, Int.reduceNeg, Int.reduceToNat, reduceIte, reduceCtorEq, hb7]
  refine awake_ok.pure trivial ?_
  simp only [push_cast, Nat.reduceAdd, Nat.reduceSub, Nat.reduceMul, Nat.reduceLT, Nat.reduceLeDiff, Nat.reduceEqDiff, Nat.reduceMod, Nat.reduceDiv, Int.reduceAdd, Int.reduceSub, Int.reduceMul, Int.reduceLT, Int.reduceLE, Int.reduceEq, Int.reduceNeg, Int.reduceToNat, reduceIte, reduceCtorEq]
  refine slots_use x1.marks (x1.pr (x0.pr h1)) b1.1 b1.2 ?_
  rw [← ea]
  intro u1 H1 y1 s1
  simp only [push_cast, Nat.reduceAdd, Nat.reduceSub, Nat.reduceMul, Nat.reduceLT, Nat.reduceLeDiff, Nat.reduceEqDiff, Nat.reduceMod, Nat.reduceDiv, Int.reduceAdd, Int.reduceSub, Int.reduceMul, Int.reduceLT, Int.reduceLE, Int.reduceEq, Int.reduceNeg, Int.reduceToNat, reduceIte, reduceCtorEq]
  refine slots_use y1.marks (y1.pr (x1.pr (x0.pr h2))) b2.1 b2.2 ?_
  rw [← eb]
  intro u2 H2 y2 s2
  have k6 := y2.keep _ _ _ _ (y1.keep _ _ _ _ k6)
  have k7 := y2.keep _ _ _ _ (y1.keep _ _ _ _ k7)
  have s1 := y2.sl s1
  obtain ⟨e6, f6, g6⟩ := at_open k6
  obtain ⟨e7, f7, g7⟩ := at_open k7
  simp only [push_cast, Nat.reduceAdd, Nat.reduceSub, Nat.reduceMul, Nat.reduceLT, Nat.reduceLeDiff, Nat.reduceEqDiff, Nat.reduceMod, Nat.reduceDiv, Int.reduceAdd, Int.reduceSub, Int.reduceMul, Int.reduceLT, Int.reduceLE, Int.reduceEq, Int.reduceNeg, Int.reduceToNat, reduceIte, reduceCtorEq, f6, g6, f7, g7]
  refine put_use y2.marks s1 ?_
  rw [mergeR_ok ra (srt_one ⟨key, val⟩) (by simp; omega)]
  obtain ⟨p, ep⟩ : ∃ p, p = mergeL a [⟨key, val⟩] := ⟨_, rfl⟩
  rw [← ep] at rp hgp lp ⊢
  intro u3 H3 y3 s3
  replace s3 : SlR H3 p u3 := s3
  have k6 := y3.keep _ _ _ _ k6
  have k7 := y3.keep _ _ _ _ k7
  have s1 := y3.sl s1
  have s2 := y3.sl s2
  have m3 := y3.marks
  obtain ⟨e6, f6, g6⟩ := at_open k6
  obtain ⟨e7, f7, g7⟩ := at_open k7
  obtain ⟨Hp3, p31, p32⟩ := s3.h
  have lp2 : p.length ≤ 4000 := by simp at lp; omega
  simp only [push_cast, Nat.reduceAdd, Nat.reduceSub, Nat.reduceMul, Nat.reduceLT, Nat.reduceLeDiff, Nat.reduceEqDiff, Nat.reduceMod, Nat.reduceDiv, Int.reduceAdd, Int.reduceSub, Int.reduceMul, Int.reduceLT, Int.reduceLE, Int.reduceEq, Int.reduceNeg, Int.reduceToNat, reduceIte, reduceCtorEq, f6, g6, f7, g7, bne_self_eq_false]
  refine TakeV.mk p32 (get_ok p31 lp2) ?_
  rw [hgp]
  simp only [push_cast, Nat.reduceAdd, Nat.reduceSub, Nat.reduceMul, Nat.reduceLT, Nat.reduceLeDiff, Nat.reduceEqDiff, Nat.reduceMod, Nat.reduceDiv, Int.reduceAdd, Int.reduceSub, Int.reduceMul, Int.reduceLT, Int.reduceLE, Int.reduceEq, Int.reduceNeg, Int.reduceToNat, reduceIte, reduceCtorEq, f6, g6, f7, g7, decide_true]
  refine TakeV.mk p32 (right_ok p31) ?_
  rw [rightB_iff.2 rp]
  simp only [push_cast, Nat.reduceAdd, Nat.reduceSub, Nat.reduceMul, Nat.reduceLT, Nat.reduceLeDiff, Nat.reduceEqDiff, Nat.reduceMod, Nat.reduceDiv, Int.reduceAdd, Int.reduceSub, Int.reduceMul, Int.reduceLT, Int.reduceLE, Int.reduceEq, Int.reduceNeg, Int.reduceToNat, reduceIte, reduceCtorEq, f6, g6, f7, g7, decide_true]
  obtain ⟨q1, c1, rfl, _⟩ := id s1
  refine loopO gD_ok (pl := Try.pl5) Try.mix (X := Nat)
    (fun k => ([(6, .pointer (some ⟨b6, 0, none⟩)), (9, .bool true), (10, .slice q1 a.length c1), (11, u2), (12, u3), (14, .int .i64 k)], H3))
    (fun k => k ≤ a.length) (fun k => a.length - k) 0 ?_ ?_ (by kernel_rfl) ?_
  · exact Nat.zero_le _
  · simp only [push_cast, Nat.reduceAdd, Nat.reduceSub, Nat.reduceMul, Nat.reduceLT, Nat.reduceLeDiff, Nat.reduceEqDiff, Nat.reduceMod, Nat.reduceDiv, Int.reduceAdd, Int.reduceSub, Int.reduceMul, Int.reduceLT, Int.reduceLE, Int.reduceEq, Int.reduceNeg, Int.reduceToNat, reduceIte, reduceCtorEq, m3]
  · rintro k hk
    dsimp only at hk ⊢
    rcases Nat.lt_or_ge k a.length with hlt | hge
    · obtain ⟨x, hx⟩ : ∃ x, a[k]? = some x := ⟨a[k], List.getElem?_eq_getElem hlt⟩
      rcases s1.open with ⟨h0, _⟩ | ⟨b1, o1, c1, e1, h1, f1, g1⟩
      · rw [h0] at hlt; cases hlt
      cases h1
      have h4 := g1 k x hx
      rcases Decidable.em (x.key = key) with hkk | hkk
      · simp only [push_cast, Nat.reduceAdd, Nat.reduceSub, Nat.reduceMul, Nat.reduceLT, Nat.reduceLeDiff, Nat.reduceEqDiff, Nat.reduceMod, Nat.reduceDiv, Int.reduceAdd, Int.reduceSub, Int.reduceMul, Int.reduceLT, Int.reduceLE, Int.reduceEq, Int.reduceNeg, Int.reduceToNat, reduceIte, reduceCtorEq, hlt, f6, g6, f1, h4, hkk, decide_true, wrap_i64' (show -9223372036854775808 ≤ (k : Int) + 1 ∧ (k : Int) + 1 ≤ 9223372036854775807 by omega)]
        exact ⟨k + 1, hlt, by omega, rfl⟩
      · have hv : getW p x.key = x.val := by rw [ep]; exact merge_keep ra (List.mem_of_getElem? hx) hkk
        have hkf : decide (x.key = key) = false := by simp [hkk]
        simp only [push_cast, Nat.reduceAdd, Nat.reduceSub, Nat.reduceMul, Nat.reduceLT, Nat.reduceLeDiff, Nat.reduceEqDiff, Nat.reduceMod, Nat.reduceDiv, Int.reduceAdd, Int.reduceSub, Int.reduceMul, Int.reduceLT, Int.reduceLE, Int.reduceEq, Int.reduceNeg, Int.reduceToNat, reduceIte, reduceCtorEq, hlt, f6, g6, f1, h4, hkf]
        refine TakeV.mk p32 (get_ok p31 lp2) ?_
        simp only [push_cast, Nat.reduceAdd, Nat.reduceSub, Nat.reduceMul, Nat.reduceLT, Nat.reduceLeDiff, Nat.reduceEqDiff, Nat.reduceMod, Nat.reduceDiv, Int.reduceAdd, Int.reduceSub, Int.reduceMul, Int.reduceLT, Int.reduceLE, Int.reduceEq, Int.reduceNeg, Int.reduceToNat, reduceIte, reduceCtorEq, hlt, f6, g6, f1, h4, hkf, hv, decide_true, wrap_i64' (show -9223372036854775808 ≤ (k : Int) + 1 ∧ (k : Int) + 1 ≤ 9223372036854775807 by omega)]
        exact ⟨k + 1, hlt, by omega, rfl⟩
    · have e2 : ¬ k < a.length := by omega
      simp only [push_cast, Nat.reduceAdd, Nat.reduceSub, Nat.reduceMul, Nat.reduceLT, Nat.reduceLeDiff, Nat.reduceEqDiff, Nat.reduceMod, Nat.reduceDiv, Int.reduceAdd, Int.reduceSub, Int.reduceMul, Int.reduceLT, Int.reduceLE, Int.reduceEq, Int.reduceNeg, Int.reduceToNat, reduceIte, reduceCtorEq, e2]
      refine merge_use m3 s1 s2 ?_
      rw [mergeR_ok ra sb (by omega)]
      obtain ⟨m, em⟩ : ∃ m, m = mergeL a b := ⟨_, rfl⟩
      rw [← em] at lm ⊢
      intro u4 H4 y4 s4
      replace s4 : SlR H4 m u4 := s4
      have s1 := y4.sl s1
      have s2 := y4.sl s2
      have m4 := y4.marks
      obtain ⟨q2, c2, rfl, _⟩ := id s2
      simp only [push_cast, Nat.reduceAdd, Nat.reduceSub, Nat.reduceMul, Nat.reduceLT, Nat.reduceLeDiff, Nat.reduceEqDiff, Nat.reduceMod, Nat.reduceDiv, Int.reduceAdd, Int.reduceSub, Int.reduceMul, Int.reduceLT, Int.reduceLE, Int.reduceEq, Int.reduceNeg, Int.reduceToNat, reduceIte, reduceCtorEq]
      refine loopO gD_ok (pl := Try.pl5) Try.mix (X := Nat × Value × Value × Hp)
        (fun s => ([(9, .bool true), (11, .slice q2 b.length c2), (15, u4), (16, .int .i64 0), (17, s.2.1), (18, s.2.2.1), (19, .int .i64 s.1)], s.2.2.2))
        (fun s => s.1 ≤ b.length ∧ Ext H4 s.2.2.2 ∧ SlR s.2.2.2 (putsL a (b.take s.1)) s.2.1 ∧ SlR s.2.2.2 (putsL a (b.reverse.take s.1)) s.2.2.1) (fun s => b.length - s.1) (0, .slice q1 a.length c1, .slice q1 a.length c1, H4) ?_ ?_ (by kernel_rfl) ?_
      · exact ⟨Nat.zero_le _, .refl m4, s1, s1⟩
      · simp only [push_cast, Nat.reduceAdd, Nat.reduceSub, Nat.reduceMul, Nat.reduceLT, Nat.reduceLeDiff, Nat.reduceEqDiff, Nat.reduceMod, Nat.reduceDiv, Int.reduceAdd, Int.reduceSub, Int.reduceMul, Int.reduceLT, Int.reduceLE, Int.reduceEq, Int.reduceNeg, Int.reduceToNat, reduceIte, reduceCtorEq, m4]
      · rintro ⟨k, vq, vr, Hk⟩ ⟨hk, yk, sq, sr⟩
        dsimp only at hk yk sq sr ⊢
        rcases Nat.lt_or_ge k b.length with hlt | hge
        · obtain ⟨x, hx⟩ : ∃ x, b[k]? = some x := ⟨b[k], List.getElem?_eq_getElem hlt⟩
          obtain ⟨j, hj⟩ : ∃ j : Nat, j + 1 + k = b.length := ⟨b.length - 1 - k, by omega⟩
          have hjl : j < b.length := by omega
          obtain ⟨y, hy⟩ : ∃ y, b[j]? = some y := ⟨b[j], List.getElem?_eq_getElem hjl⟩
          have hry : b.reverse[k]? = some y := by
            rw [List.getElem?_reverse hlt, ← hy]
            congr 1
            omega
          have tq : b.take (k + 1) = b.take k ++ [x] := by rw [List.take_add_one, hx]; rfl
          have tr : b.reverse.take (k + 1) = b.reverse.take k ++ [y] := by rw [List.take_add_one, hry]; rfl
          have hxm := List.mem_of_getElem? hx
          have hgm : getW m x.key = x.val := by rw [em]; exact merge_get ra sb hxm
          have s2 := yk.sl s2
          have s4 := yk.sl s4
          have mk := yk.marks
          rcases s2.open with ⟨h0, _⟩ | ⟨b2, o2, c2, e2, h2, f2, g2⟩
          · rw [h0] at hlt; cases hlt
          cases h2
          have hx2 := g2 k x hx
          have hy2 := g2 j y hy
          simp only [push_cast, Nat.reduceAdd, Nat.reduceSub, Nat.reduceMul, Nat.reduceLT, Nat.reduceLeDiff, Nat.reduceEqDiff, Nat.reduceMod, Nat.reduceDiv, Int.reduceAdd, Int.reduceSub, Int.reduceMul, Int.reduceLT, Int.reduceLE, Int.reduceEq, Int.reduceNeg, Int.reduceToNat, reduceIte, reduceCtorEq, hlt, f2, hx2]
          obtain ⟨iq1, iq2, iq3⟩ := putsL_ok ra.srt ra.noz k (b.take k) (by simp; omega)
          obtain ⟨ir1, ir2, ir3⟩ := putsL_ok ra.srt ra.noz k (b.reverse.take k) (by simp; omega)
          refine put_use2 mk sq ?_
          rw [mergeR_ok ⟨iq1, iq2, by omega⟩ (srt_one _) (by simp; omega)]
          intro u5 H5 z5 y5 s5
          replace s5 : SlR H5 (putsL a (b.take (k + 1))) u5 := by rw [tq, putsL_succ]; exact s5
          have sr := y5.sl sr
          have s2 := y5.sl s2
          have s4 := y5.sl s4
          have m5 := y5.marks
          obtain ⟨e3, f3, g3⟩ := s2.here (by rintro rfl; cases hlt)
          have hx3 := g3 k x hx
          have hy3 := g3 j y hy
          have w1 := wrap_i64' (show -9223372036854775808 ≤ (b.length : Int) - 1 ∧ (b.length : Int) - 1 ≤ 9223372036854775807 by omega)
          have ej : (b.length : Int) - 1 - (k : Int) = (j : Int) := by omega
          have wj := wrap_i64' (show -9223372036854775808 ≤ (j : Int) ∧ (j : Int) ≤ 9223372036854775807 by omega)
          simp only [push_cast, Nat.reduceAdd, Nat.reduceSub, Nat.reduceMul, Nat.reduceLT, Nat.reduceLeDiff, Nat.reduceEqDiff, Nat.reduceMod, Nat.reduceDiv, Int.reduceAdd, Int.reduceSub, Int.reduceMul, Int.reduceLT, Int.reduceLE, Int.reduceEq, Int.reduceNeg, Int.reduceToNat, reduceIte, reduceCtorEq, z5, w1, ej, wj, hjl, f3, hy3]
          refine put_use2 m5 sr ?_
          rw [mergeR_ok ⟨ir1, ir2, by omega⟩ (srt_one _) (by simp; omega)]
          intro u6 H6 z6 y6 s6
          replace s6 : SlR H6 (putsL a (b.reverse.take (k + 1))) u6 := by rw [tr, putsL_succ]; exact s6
          have s5 := y6.sl s5
          have s2 := y6.sl s2
          have s4 := y6.sl s4
          have m6 := y6.marks
          obtain ⟨Hm6, h61, h62⟩ := s4.h
          obtain ⟨e4, f4, g4⟩ := s2.here (by rintro rfl; cases hlt)
          have hx4 := g4 k x hx
          simp only [push_cast, Nat.reduceAdd, Nat.reduceSub, Nat.reduceMul, Nat.reduceLT, Nat.reduceLeDiff, Nat.reduceEqDiff, Nat.reduceMod, Nat.reduceDiv, Int.reduceAdd, Int.reduceSub, Int.reduceMul, Int.reduceLT, Int.reduceLE, Int.reduceEq, Int.reduceNeg, Int.reduceToNat, reduceIte, reduceCtorEq, z6, hlt, f4, hx4, hgm, decide_true]
          refine TakeV.mk h62 (get_ok h61 (by omega)) ?_
          rw [hgm]
          simp only [push_cast, Nat.reduceAdd, Nat.reduceSub, Nat.reduceMul, Nat.reduceLT, Nat.reduceLeDiff, Nat.reduceEqDiff, Nat.reduceMod, Nat.reduceDiv, Int.reduceAdd, Int.reduceSub, Int.reduceMul, Int.reduceLT, Int.reduceLE, Int.reduceEq, Int.reduceNeg, Int.reduceToNat, reduceIte, reduceCtorEq, z6, hlt, f4, hx4, decide_true, wrap_i64' (show -9223372036854775808 ≤ (k : Int) + 1 ∧ (k : Int) + 1 ≤ 9223372036854775807 by omega)]
          refine ⟨(k + 1, u5, u6, H6), ⟨hlt, (yk.trans y5).trans y6, s5, s6⟩, by dsimp only; omega, ?_⟩
          simp only [push_cast, Nat.reduceAdd, Nat.reduceSub, Nat.reduceMul, Nat.reduceLT, Nat.reduceLeDiff, Nat.reduceEqDiff, Nat.reduceMod, Nat.reduceDiv, Int.reduceAdd, Int.reduceSub, Int.reduceMul, Int.reduceLT, Int.reduceLE, Int.reduceEq, Int.reduceNeg, Int.reduceToNat, reduceIte, reduceCtorEq]
        · have e2 : ¬ k < b.length := by omega
          obtain rfl : k = b.length := by omega
          have s4 := yk.sl s4
          rw [List.take_length, puts_merge ra sb, ← em] at sq
          rw [show b.reverse.take b.length = b.reverse by rw [← List.length_reverse, List.take_length], puts_rev ra sb, ← em] at sr
          simp only [push_cast, Nat.reduceAdd, Nat.reduceSub, Nat.reduceMul, Nat.reduceLT, Nat.reduceLeDiff, Nat.reduceEqDiff, Nat.reduceMod, Nat.reduceDiv, Int.reduceAdd, Int.reduceSub, Int.reduceMul, Int.reduceLT, Int.reduceLE, Int.reduceEq, Int.reduceNeg, Int.reduceToNat, reduceIte, reduceCtorEq, e2, bne_self_eq_false]
          refine same_use s4 sq (by omega) (by omega) ?_
          simp only [push_cast, Nat.reduceAdd, Nat.reduceSub, Nat.reduceMul, Nat.reduceLT, Nat.reduceLeDiff, Nat.reduceEqDiff, Nat.reduceMod, Nat.reduceDiv, Int.reduceAdd, Int.reduceSub, Int.reduceMul, Int.reduceLT, Int.reduceLE, Int.reduceEq, Int.reduceNeg, Int.reduceToNat, reduceIte, reduceCtorEq, decide_true]
          refine same_use s4 sr (by omega) (by omega) ?_
          simp only [push_cast, Nat.reduceAdd, Nat.reduceSub, Nat.reduceMul, Nat.reduceLT, Nat.reduceLeDiff, Nat.reduceEqDiff, Nat.reduceMod, Nat.reduceDiv, Int.reduceAdd, Int.reduceSub, Int.reduceMul, Int.reduceLT, Int.reduceLE, Int.reduceEq, Int.reduceNeg, Int.reduceToNat, reduceIte, reduceCtorEq, decide_true]
end Go.Proofs.Ytfjenfjfiinjmaa
