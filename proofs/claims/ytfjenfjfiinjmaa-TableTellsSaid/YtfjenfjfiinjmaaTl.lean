/- Tl: the document's own Put and Diff on slots. -/
import Derived.Test.YtfjenfjfiinjmaaTk
set_option linter.unusedSimpArgs false
set_option linter.unusedVariables false
namespace Go.Ev
theorem diffL_l {x : Sl} {r b : List Sl} (h0 : ¬ x.val = W.zero) (hb : ∀ y s, b = y :: s → x.key.num < y.key.num) : diffL (x :: r) b = ⟨x.key, W.zero⟩ :: diffL r b := by
  unfold diffL
  cases b with
  | nil => rw [joinS, List.filterMap_cons_some (b := ⟨x.key, W.zero⟩) (by simp [pickD, h0])]
  | cons y s =>
    rw [joinS, if_pos (hb y s rfl), List.filterMap_cons_some (b := ⟨x.key, W.zero⟩) (by simp [pickD, h0])]
theorem diffL_r {y : Sl} {a s : List Sl} (h0 : ¬ y.val = W.zero) (ha : ∀ x r, a = x :: r → y.key.num < x.key.num) : diffL a (y :: s) = y :: diffL a s := by
  have h0' : ¬ W.zero = y.val := fun h => h0 h.symm
  unfold diffL
  cases a with
  | nil => rw [joinS, List.filterMap_cons_some (b := y) (by simp [pickD, h0'])]
  | cons x r =>
    have h := ha x r rfl
    rw [joinS, if_neg (by omega), if_pos h, List.filterMap_cons_some (b := y) (by simp [pickD, h0'])]
theorem diffL_e {x y : Sl} {r s : List Sl} (h : x.key = y.key) : diffL (x :: r) (y :: s) = if x.val = y.val then diffL r s else y :: diffL r s := by
  unfold diffL
  rw [joinS, if_neg (by rw [h]; omega), if_neg (by rw [h]; omega)]
  split
  · rename_i he; rw [List.filterMap_cons_none (by simp [pickD, he])]
  · rename_i he; rw [List.filterMap_cons_some (b := y) (by simp [pickD, he])]
theorem drop_at {l : List Sl} {i : Nat} {x : Sl} (h : l[i]? = some x) : l.drop i = x :: l.drop (i + 1) := by
  obtain ⟨h1, h2⟩ := List.getElem?_eq_some_iff.1 h
  rw [List.drop_eq_getElem_cons h1, h2]
end Go.Ev
namespace Go.Proofs.Ytfjenfjfiinjmaa
open Go Go.Ev Go.Proofs
set_option maxRecDepth 100000
set_option maxHeartbeats 4000000
theorem refPut_ok {Hf : Hp} {l : List Sl} {v : Value} {k w : W} (hm : marksOf Hf = []) (h1 : SlR Hf l v) (hn : l.length ≤ 2000) :
    CallsV Try.prog 18 [v, k.v, w.v] Hf (OutE 31 (mergeR l [⟨k, w⟩])) := by
  refine callsO gD_ok Try.mix Try.pl18 Try.func18 rfl Try.ntmps18 Try.results18 rfl (by first | rfl | assumption) (Nat.le_of_ble_eq_true rfl) (by kernel_rfl) ?_
  simp only [push_cast, Nat.reduceAdd, Nat.reduceSub, Nat.reduceMul, Nat.reduceLT, Nat.reduceLeDiff, Nat.reduceEqDiff, Nat.reduceMod, Nat.reduceDiv, Int.reduceAdd, Int.reduceSub, Int.reduceMul, Int.reduceLT, Int.reduceLE, Int.reduceEq, Int.reduceNeg, Int.reduceToNat, reduceIte, reduceCtorEq]
  intro b4 hb4 b5 hb5
  try simp only [push_cast, Nat.reduceAdd, Nat.reduceSub, Nat.reduceMul, Nat.reduceLT, Nat.reduceLeDiff, Nat.reduceEqDiff, Nat.reduceMod, Nat.reduceDiv, Int.reduceAdd, Int.reduceSub, Int.reduceMul, Int.reduceLT, Int.reduceLE, Int.reduceEq, Int.reduceNeg, Int.reduceToNat, reduceIte, reduceCtorEq, hb4, hb5]
  intro b12 hb12
  have x0 := Ext.cons (e := ⟨b4, 0, .cel 26, k.cells⟩) hm rfl hb4
  have x1 := Ext.cons (e := ⟨b5, 0, .cel 26, w.cells⟩) x0.marks rfl hb5
  have x2 := Ext.cons (e := ⟨b12, 0, .vec 31 8 1, Sl.cells ⟨k, w⟩⟩) x1.marks rfl hb12
  have s1 := x2.sl (x1.sl (x0.sl h1))
  have s2 : SlR (⟨b12, 0, .vec 31 8 1, Sl.cells ⟨k, w⟩⟩ :: ⟨b5, 0, .cel 26, w.cells⟩ :: ⟨b4, 0, .cel 26, k.cells⟩ :: Hf) [⟨k, w⟩] (.slice (some ⟨b12, 0, none⟩) 1 1) := .vec (by simp [slC_one]) rfl
  obtain ⟨Hx, d1, d2, d3, d4, d5⟩ := s1.two s2
  refine (refMerge_ok d3 d4 d5 hn (by simp) d2).use d1 ?_
  rintro _ N ⟨w', rfl, ho⟩
  refine ⟨ho.wr.1, ho.wr.2, fun hf => ?_⟩
  simp only [push_cast, Nat.reduceAdd, Nat.reduceSub, Nat.reduceMul, Nat.reduceLT, Nat.reduceLeDiff, Nat.reduceEqDiff, Nat.reduceMod, Nat.reduceDiv, Int.reduceAdd, Int.reduceSub, Int.reduceMul, Int.reduceLT, Int.reduceLE, Int.reduceEq, Int.reduceNeg, Int.reduceToNat, reduceIte, reduceCtorEq]
  refine ⟨N, (by rw [dropM_eq (by simp only [marks_append, marksOf, ho.wr.2, hm, List.append_nil])]; exact List.sublist_append_left _ _), _, rfl, ho⟩
theorem refDiff_ok {Hf : Hp} {a b : List Sl} {v u : Value} (hm : marksOf Hf = []) (h1 : SlR Hf a v) (h2 : SlR Hf b u) (hn : a.length ≤ 2000) (hn2 : b.length ≤ 2000) :
    CallsV Try.prog 23 [v, u] Hf (OutE 31 (diffR a b)) := by
  obtain ⟨q1, c1, rfl, _⟩ := id h1
  obtain ⟨q2, c2, rfl, _⟩ := id h2
  obtain ⟨L, l1, l2⟩ := h1.h
  obtain ⟨M, m1, m2⟩ := h2.h
  refine callsO gD_ok Try.mix Try.pl23 Try.func23 rfl Try.ntmps23 Try.results23 rfl (by first | rfl | assumption) (Nat.le_of_ble_eq_true rfl) (by kernel_rfl) ?_
  simp only [push_cast, Nat.reduceAdd, Nat.reduceSub, Nat.reduceMul, Nat.reduceLT, Nat.reduceLeDiff, Nat.reduceEqDiff, Nat.reduceMod, Nat.reduceDiv, Int.reduceAdd, Int.reduceSub, Int.reduceMul, Int.reduceLT, Int.reduceLE, Int.reduceEq, Int.reduceNeg, Int.reduceToNat, reduceIte, reduceCtorEq]
  refine (refRight_ok l1 (by omega)).pure l2 ?_
  simp only [push_cast, Nat.reduceAdd, Nat.reduceSub, Nat.reduceMul, Nat.reduceLT, Nat.reduceLeDiff, Nat.reduceEqDiff, Nat.reduceMod, Nat.reduceDiv, Int.reduceAdd, Int.reduceSub, Int.reduceMul, Int.reduceLT, Int.reduceLE, Int.reduceEq, Int.reduceNeg, Int.reduceToNat, reduceIte, reduceCtorEq]
  cases hr : rightB a with
  | false =>
    simp only [push_cast, Nat.reduceAdd, Nat.reduceSub, Nat.reduceMul, Nat.reduceLT, Nat.reduceLeDiff, Nat.reduceEqDiff, Nat.reduceMod, Nat.reduceDiv, Int.reduceAdd, Int.reduceSub, Int.reduceMul, Int.reduceLT, Int.reduceLE, Int.reduceEq, Int.reduceNeg, Int.reduceToNat, reduceIte, reduceCtorEq]
    exact ⟨[], List.nil_sublist _, _, by simp [diffR, hr], .inl ⟨by simp [diffR, hr], rfl, rfl⟩⟩
  | true =>
  simp only [push_cast, Nat.reduceAdd, Nat.reduceSub, Nat.reduceMul, Nat.reduceLT, Nat.reduceLeDiff, Nat.reduceEqDiff, Nat.reduceMod, Nat.reduceDiv, Int.reduceAdd, Int.reduceSub, Int.reduceMul, Int.reduceLT, Int.reduceLE, Int.reduceEq, Int.reduceNeg, Int.reduceToNat, reduceIte, reduceCtorEq]
  refine (refRight_ok m1 (by omega)).pure m2 ?_
  simp only [push_cast, Nat.reduceAdd, Nat.reduceSub, Nat.reduceMul, Nat.reduceLT, Nat.reduceLeDiff, Nat.reduceEqDiff, Nat.reduceMod, Nat.reduceDiv, Int.reduceAdd, Int.reduceSub, Int.reduceMul, Int.reduceLT, Int.reduceLE, Int.reduceEq, Int.reduceNeg, Int.reduceToNat, reduceIte, reduceCtorEq]
  cases hp : rightB b with
  | false =>
    simp only [push_cast, Nat.reduceAdd, Nat.reduceSub, Nat.reduceMul, Nat.reduceLT, Nat.reduceLeDiff, Nat.reduceEqDiff, Nat.reduceMod, Nat.reduceDiv, Int.reduceAdd, Int.reduceSub, Int.reduceMul, Int.reduceLT, Int.reduceLE, Int.reduceEq, Int.reduceNeg, Int.reduceToNat, reduceIte, reduceCtorEq]
    exact ⟨[], List.nil_sublist _, _, by simp [diffR, hr, hp], .inl ⟨by simp [diffR, hr, hp], rfl, rfl⟩⟩
  | true =>
  have ra := rightB_iff.1 hr
  have rb := rightB_iff.1 hp
  simp only [push_cast, Nat.reduceAdd, Nat.reduceSub, Nat.reduceMul, Nat.reduceLT, Nat.reduceLeDiff, Nat.reduceEqDiff, Nat.reduceMod, Nat.reduceDiv, Int.reduceAdd, Int.reduceSub, Int.reduceMul, Int.reduceLT, Int.reduceLE, Int.reduceEq, Int.reduceNeg, Int.reduceToNat, reduceIte, reduceCtorEq]
  refine loopO gD_ok (pl := Try.pl23) Try.mix (X := Nat × Nat × List Sl × Value × Hp)
    (fun s => ([(0, .slice q1 a.length c1), (1, .slice q2 b.length c2), (6, s.2.2.2.1), (7, .int .i64 s.1), (8, .int .i64 s.2.1)], s.2.2.2.2 ++ Hf))
    (fun s => s.1 ≤ a.length ∧ s.2.1 ≤ b.length ∧ OutS 31 s.2.2.1 s.2.2.2.1 s.2.2.2.2 ∧ freshN s.2.2.2.2 Hf ∧ s.2.2.1 ++ diffL (a.drop s.1) (b.drop s.2.1) = diffL a b)
    (fun s => (a.length - s.1) + (b.length - s.2.1)) (0, 0, [], .slice none 0 0, []) ?_ ?_ (by kernel_rfl) ?_
  · exact ⟨Nat.zero_le _, Nat.zero_le _, .inl ⟨rfl, rfl, rfl⟩, trivial, rfl⟩
  · simp only [push_cast, Nat.reduceAdd, Nat.reduceSub, Nat.reduceMul, Nat.reduceLT, Nat.reduceLeDiff, Nat.reduceEqDiff, Nat.reduceMod, Nat.reduceDiv, Int.reduceAdd, Int.reduceSub, Int.reduceMul, Int.reduceLT, Int.reduceLE, Int.reduceEq, Int.reduceNeg, Int.reduceToNat, reduceIte, reduceCtorEq, hm]
  · rintro ⟨i, j, out, vo, No⟩ ⟨hi, hj, ho, hf, hd⟩
    dsimp only at hi hj ho hf hd ⊢
    have hol : out.length ≤ 4000 := by
      have h3 := (joinS_bound a b).2
      have h4 := congrArg List.length hd
      rw [List.length_append] at h4
      omega
    rcases Nat.lt_or_ge i a.length with hia | hia
    · obtain ⟨x, hx⟩ : ∃ x, a[i]? = some x := ⟨a[i], List.getElem?_eq_getElem hia⟩
      obtain ⟨ba, oa, c', hc⟩ := h1.lies hia
      cases hc
      obtain ⟨ea, hea, hga⟩ := h1.here (by rintro rfl; cases hia)
      have hxi := hga i x hx
      have fa : findE (No ++ Hf) ba = some ea := by rw [findE_freshN hf hea]; exact hea
      have x0 := ra.noz x (List.mem_of_getElem? hx)
      have nia : ((i : Int) == (a.length : Int)) = false := by rw [beq_eq_false_iff_ne]; omega
      rcases Nat.lt_or_ge j b.length with hjb | hjb
      · obtain ⟨y, hy⟩ : ∃ y, b[j]? = some y := ⟨b[j], List.getElem?_eq_getElem hjb⟩
        obtain ⟨bb, ob, c'', hc⟩ := h2.lies hjb
        cases hc
        obtain ⟨eb, heb, hgb⟩ := h2.here (by rintro rfl; cases hjb)
        have hyj := hgb j y hy
        have fb : findE (No ++ Hf) bb = some eb := by rw [findE_freshN hf heb]; exact heb
        have y0 := rb.noz y (List.mem_of_getElem? hy)
        have njb : ((j : Int) == (b.length : Int)) = false := by rw [beq_eq_false_iff_ne]; omega
        rw [drop_at hx, drop_at hy] at hd
        rcases Int.lt_or_le (x.key.cmp y.key) 0 with hc | hc
        · have hlt := W.cmp_neg.1 hc
          rw [diffL_l x0 (fun z s e => by cases e; exact hlt), ← drop_at hy] at hd
          simp only [push_cast, Nat.reduceAdd, Nat.reduceSub, Nat.reduceMul, Nat.reduceLT, Nat.reduceLeDiff, Nat.reduceEqDiff, Nat.reduceMod, Nat.reduceDiv, Int.reduceAdd, Int.reduceSub, Int.reduceMul, Int.reduceLT, Int.reduceLE, Int.reduceEq, Int.reduceNeg, Int.reduceToNat, reduceIte, reduceCtorEq, hia, hjb, fa, fb, hxi, hyj, nia, njb, hc, x0, y0]
          intro b10 hb10
          refine app_slot (x := ⟨x.key, W.zero⟩) ho hb10 (by omega) fun v' N' ho' hf' => ?_
          simp only [push_cast, Nat.reduceAdd, Nat.reduceSub, Nat.reduceMul, Nat.reduceLT, Nat.reduceLeDiff, Nat.reduceEqDiff, Nat.reduceMod, Nat.reduceDiv, Int.reduceAdd, Int.reduceSub, Int.reduceMul, Int.reduceLT, Int.reduceLE, Int.reduceEq, Int.reduceNeg, Int.reduceToNat, reduceIte, reduceCtorEq, wrap_i64' (show -9223372036854775808 ≤ (i : Int) + 1 ∧ (i : Int) + 1 ≤ 9223372036854775807 by omega)]
          refine ⟨(i + 1, j, out ++ [⟨x.key, W.zero⟩], v', N'), ⟨by dsimp only; omega, by dsimp only; omega, ho', freshN_cons hf', by rw [List.append_assoc]; exact hd⟩, by dsimp only; omega, ⟨rfl, rfl, rfl⟩, subH_pre (subH_cons (fresh_app hb10)) _, ?_⟩
          simp only [marks_append, marksOf]
        · have hc1 : ¬ x.key.cmp y.key < 0 := by omega
          rcases Int.lt_or_le 0 (x.key.cmp y.key) with hc2 | hc2
          · have hlt := W.cmp_pos.1 hc2
            rw [diffL_r y0 (fun z s e => by cases e; exact hlt), ← drop_at hx] at hd
            simp only [push_cast, Nat.reduceAdd, Nat.reduceSub, Nat.reduceMul, Nat.reduceLT, Nat.reduceLeDiff, Nat.reduceEqDiff, Nat.reduceMod, Nat.reduceDiv, Int.reduceAdd, Int.reduceSub, Int.reduceMul, Int.reduceLT, Int.reduceLE, Int.reduceEq, Int.reduceNeg, Int.reduceToNat, reduceIte, reduceCtorEq, hia, hjb, fa, fb, hxi, hyj, nia, njb, hc1, hc2, x0, y0]
            intro b10 hb10
            refine app_slot (x := y) ho hb10 (by omega) fun v' N' ho' hf' => ?_
            simp only [push_cast, Nat.reduceAdd, Nat.reduceSub, Nat.reduceMul, Nat.reduceLT, Nat.reduceLeDiff, Nat.reduceEqDiff, Nat.reduceMod, Nat.reduceDiv, Int.reduceAdd, Int.reduceSub, Int.reduceMul, Int.reduceLT, Int.reduceLE, Int.reduceEq, Int.reduceNeg, Int.reduceToNat, reduceIte, reduceCtorEq, wrap_i64' (show -9223372036854775808 ≤ (j : Int) + 1 ∧ (j : Int) + 1 ≤ 9223372036854775807 by omega)]
            refine ⟨(i, j + 1, out ++ [y], v', N'), ⟨by dsimp only; omega, by dsimp only; omega, ho', freshN_cons hf', by rw [List.append_assoc]; exact hd⟩, by dsimp only; omega, ⟨rfl, rfl, rfl⟩, subH_pre (subH_cons (fresh_app hb10)) _, ?_⟩
            simp only [marks_append, marksOf]
          · have hc3 : ¬ 0 < x.key.cmp y.key := by omega
            have he : x.key = y.key := W.cmp_zero.1 (by omega)
            rw [diffL_e he] at hd
            by_cases hxy : x.val = y.val
            · have e1 : decide (x.val = y.val) = true := by simpa using hxy
              rw [if_pos hxy] at hd
              simp only [push_cast, Nat.reduceAdd, Nat.reduceSub, Nat.reduceMul, Nat.reduceLT, Nat.reduceLeDiff, Nat.reduceEqDiff, Nat.reduceMod, Nat.reduceDiv, Int.reduceAdd, Int.reduceSub, Int.reduceMul, Int.reduceLT, Int.reduceLE, Int.reduceEq, Int.reduceNeg, Int.reduceToNat, reduceIte, reduceCtorEq, hia, hjb, fa, fb, hxi, hyj, nia, njb, hc1, hc3, e1, wrap_i64' (show -9223372036854775808 ≤ (i : Int) + 1 ∧ (i : Int) + 1 ≤ 9223372036854775807 by omega), wrap_i64' (show -9223372036854775808 ≤ (j : Int) + 1 ∧ (j : Int) + 1 ≤ 9223372036854775807 by omega)]
              refine ⟨(i + 1, j + 1, out, vo, No), ⟨by dsimp only; omega, by dsimp only; omega, ho, hf, hd⟩, by dsimp only; omega, ⟨rfl, rfl, rfl⟩, subH_self _, rfl⟩
            · have e1 : decide (x.val = y.val) = false := by simpa using hxy
              rw [if_neg hxy] at hd
              simp only [push_cast, Nat.reduceAdd, Nat.reduceSub, Nat.reduceMul, Nat.reduceLT, Nat.reduceLeDiff, Nat.reduceEqDiff, Nat.reduceMod, Nat.reduceDiv, Int.reduceAdd, Int.reduceSub, Int.reduceMul, Int.reduceLT, Int.reduceLE, Int.reduceEq, Int.reduceNeg, Int.reduceToNat, reduceIte, reduceCtorEq, hia, hjb, fa, fb, hxi, hyj, nia, njb, hc1, hc3, e1]
              intro b10 hb10
              refine app_slot (x := y) ho hb10 (by omega) fun v' N' ho' hf' => ?_
              simp only [push_cast, Nat.reduceAdd, Nat.reduceSub, Nat.reduceMul, Nat.reduceLT, Nat.reduceLeDiff, Nat.reduceEqDiff, Nat.reduceMod, Nat.reduceDiv, Int.reduceAdd, Int.reduceSub, Int.reduceMul, Int.reduceLT, Int.reduceLE, Int.reduceEq, Int.reduceNeg, Int.reduceToNat, reduceIte, reduceCtorEq, hia, hjb, wrap_i64' (show -9223372036854775808 ≤ (i : Int) + 1 ∧ (i : Int) + 1 ≤ 9223372036854775807 by omega), wrap_i64' (show -9223372036854775808 ≤ (j : Int) + 1 ∧ (j : Int) + 1 ≤ 9223372036854775807 by omega)]
              refine ⟨(i + 1, j + 1, out ++ [y], v', N'), ⟨by dsimp only; omega, by dsimp only; omega, ho', freshN_cons hf', by rw [List.append_assoc]; exact hd⟩, by dsimp only; omega, ⟨rfl, rfl, rfl⟩, subH_pre (subH_cons (fresh_app hb10)) _, ?_⟩
              simp only [marks_append, marksOf]
      · have njb : ((j : Int) == (b.length : Int)) = true := by rw [beq_iff_eq]; omega
        rw [drop_at hx, List.drop_of_length_le hjb, diffL_l x0 (fun z s e => by cases e)] at hd
        have hjb' : ¬ j < b.length := by omega
        have ejb : j = b.length := by omega
        subst ejb
        simp only [push_cast, Nat.reduceAdd, Nat.reduceSub, Nat.reduceMul, Nat.reduceLT, Nat.reduceLeDiff, Nat.reduceEqDiff, Nat.reduceMod, Nat.reduceDiv, Int.reduceAdd, Int.reduceSub, Int.reduceMul, Int.reduceLT, Int.reduceLE, Int.reduceEq, Int.reduceNeg, Int.reduceToNat, reduceIte, reduceCtorEq, undef, hia, fa, hxi, nia, beq_self_eq_true, Nat.lt_irrefl]
        intro b10 hb10
        refine app_slot (x := ⟨x.key, W.zero⟩) ho hb10 (by omega) fun v' N' ho' hf' => ?_
        simp only [push_cast, Nat.reduceAdd, Nat.reduceSub, Nat.reduceMul, Nat.reduceLT, Nat.reduceLeDiff, Nat.reduceEqDiff, Nat.reduceMod, Nat.reduceDiv, Int.reduceAdd, Int.reduceSub, Int.reduceMul, Int.reduceLT, Int.reduceLE, Int.reduceEq, Int.reduceNeg, Int.reduceToNat, reduceIte, reduceCtorEq, wrap_i64' (show -9223372036854775808 ≤ (i : Int) + 1 ∧ (i : Int) + 1 ≤ 9223372036854775807 by omega)]
        refine ⟨(i + 1, b.length, out ++ [⟨x.key, W.zero⟩], v', N'), ⟨by dsimp only; omega, by dsimp only; omega, ho', freshN_cons hf', by rw [List.append_assoc, List.drop_of_length_le (Nat.le_refl _)]; exact hd⟩, by dsimp only; omega, ⟨rfl, rfl, rfl⟩, subH_pre (subH_cons (fresh_app hb10)) _, ?_⟩
        simp only [marks_append, marksOf]
    · rcases Nat.lt_or_ge j b.length with hjb | hjb
      · obtain ⟨y, hy⟩ : ∃ y, b[j]? = some y := ⟨b[j], List.getElem?_eq_getElem hjb⟩
        obtain ⟨bb, ob, c'', hc⟩ := h2.lies hjb
        cases hc
        obtain ⟨eb, heb, hgb⟩ := h2.here (by rintro rfl; cases hjb)
        have hyj := hgb j y hy
        have fb : findE (No ++ Hf) bb = some eb := by rw [findE_freshN hf heb]; exact heb
        have y0 := rb.noz y (List.mem_of_getElem? hy)
        have njb : ((j : Int) == (b.length : Int)) = false := by rw [beq_eq_false_iff_ne]; omega
        have nia : ((i : Int) == (a.length : Int)) = true := by rw [beq_iff_eq]; omega
        have hia' : ¬ i < a.length := by omega
        rw [drop_at hy, List.drop_of_length_le hia, diffL_r y0 (fun z s e => by cases e)] at hd
        have eia : i = a.length := by omega
        subst eia
        simp only [push_cast, Nat.reduceAdd, Nat.reduceSub, Nat.reduceMul, Nat.reduceLT, Nat.reduceLeDiff, Nat.reduceEqDiff, Nat.reduceMod, Nat.reduceDiv, Int.reduceAdd, Int.reduceSub, Int.reduceMul, Int.reduceLT, Int.reduceLE, Int.reduceEq, Int.reduceNeg, Int.reduceToNat, reduceIte, reduceCtorEq, hjb, fb, hyj, njb, beq_self_eq_true, Nat.lt_irrefl]
        intro b10 hb10
        refine app_slot (x := y) ho hb10 (by omega) fun v' N' ho' hf' => ?_
        simp only [push_cast, Nat.reduceAdd, Nat.reduceSub, Nat.reduceMul, Nat.reduceLT, Nat.reduceLeDiff, Nat.reduceEqDiff, Nat.reduceMod, Nat.reduceDiv, Int.reduceAdd, Int.reduceSub, Int.reduceMul, Int.reduceLT, Int.reduceLE, Int.reduceEq, Int.reduceNeg, Int.reduceToNat, reduceIte, reduceCtorEq, wrap_i64' (show -9223372036854775808 ≤ (j : Int) + 1 ∧ (j : Int) + 1 ≤ 9223372036854775807 by omega)]
        refine ⟨(a.length, j + 1, out ++ [y], v', N'), ⟨by dsimp only; omega, by dsimp only; omega, ho', freshN_cons hf', by rw [List.append_assoc, List.drop_of_length_le (Nat.le_refl _)]; exact hd⟩, by dsimp only; omega, ⟨rfl, rfl, rfl⟩, subH_pre (subH_cons (fresh_app hb10)) _, ?_⟩
        simp only [marks_append, marksOf]
      · have hia' : ¬ i < a.length := by omega
        have hjb' : ¬ j < b.length := by omega
        rw [List.drop_of_length_le hia, List.drop_of_length_le hjb, show diffL [] [] = [] by simp [diffL, joinS], List.append_nil] at hd
        subst hd
        obtain ⟨p, c, rfl⟩ := ho.c.slice
        have hmr : diffR a b = limR (diffL a b) := by simp [diffR, hr, hp]
        have hdm : dropM (No ++ Hf) = No ++ Hf := dropM_eq (by simp only [marks_append, marksOf, ho.wr.2, hm, List.append_nil])
        rcases Nat.lt_or_ge 1000 (diffL a b).length with h | h
        · have h' : (1000 : Int) < ((diffL a b).length : Int) := by omega
          simp only [push_cast, Nat.reduceAdd, Nat.reduceSub, Nat.reduceMul, Nat.reduceLT, Nat.reduceLeDiff, Nat.reduceEqDiff, Nat.reduceMod, Nat.reduceDiv, Int.reduceAdd, Int.reduceSub, Int.reduceMul, Int.reduceLT, Int.reduceLE, Int.reduceEq, Int.reduceNeg, Int.reduceToNat, reduceIte, reduceCtorEq, hia', hjb', h', hmr, limR, h]
          exact ⟨[], List.nil_sublist _, _, rfl, .inl ⟨rfl, rfl, rfl⟩⟩
        · have h' : ¬ (1000 : Int) < ((diffL a b).length : Int) := by omega
          simp only [push_cast, Nat.reduceAdd, Nat.reduceSub, Nat.reduceMul, Nat.reduceLT, Nat.reduceLeDiff, Nat.reduceEqDiff, Nat.reduceMod, Nat.reduceDiv, Int.reduceAdd, Int.reduceSub, Int.reduceMul, Int.reduceLT, Int.reduceLE, Int.reduceEq, Int.reduceNeg, Int.reduceToNat, reduceIte, reduceCtorEq, hia', hjb', h', hmr, limR, Nat.not_lt.2 h, hdm]
          exact ⟨No, List.sublist_append_left _ _, _, rfl, ho⟩
end Go.Proofs.Ytfjenfjfiinjmaa
