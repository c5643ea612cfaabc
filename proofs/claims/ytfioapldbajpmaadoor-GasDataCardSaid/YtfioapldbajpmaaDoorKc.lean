/- Kc: the document's put, set of keys. -/
import Derived.Test.YtfioapldbajpmaaDoorKb
set_option linter.unusedSimpArgs false
set_option linter.unusedVariables false
namespace Go.Ev
theorem add3_sub (o a b c : Nat) : o + a + b + c - o = a + b + c := by omega
theorem le_add3 (o a b c : Nat) : o ≤ o + a + b + c := by omega
theorem le_add2 (o a b : Nat) : o ≤ o + a + b := by omega
attribute [push_cast] add3_sub le_add3 le_add2
noncomputable def stepP (k : KeyT) (s : List KeyT × Bool) (x : KeyT) : List KeyT × Bool :=
  if ordI k x = 0 then (s.1 ++ [x], true) else if ordI k x < 0 ∧ s.2 = false then (s.1 ++ [k] ++ [x], true) else (s.1 ++ [x], s.2)
noncomputable def foldP (k : KeyT) (l : List KeyT) : List KeyT × Bool := l.foldl (stepP k) ([], false)
noncomputable def putK (l : List KeyT) (k : KeyT) : List KeyT := if (foldP k l).2 then (foldP k l).1 else (foldP k l).1 ++ [k]
theorem foldP_take {k : KeyT} {l : List KeyT} {i : Nat} {x : KeyT} (h : l[i]? = some x) : foldP k (l.take (i + 1)) = stepP k (foldP k (l.take i)) x := by
  obtain ⟨hi, hx⟩ := List.getElem?_eq_some_iff.1 h
  unfold foldP
  rw [List.take_succ_eq_append_getElem hi, List.foldl_append, hx]; rfl
theorem stepP_len (k : KeyT) (s : List KeyT × Bool) (x : KeyT) : (stepP k s x).1.length + (if (stepP k s x).2 then 0 else 1) ≤ s.1.length + (if s.2 then 0 else 1) + 1 := by
  unfold stepP
  split
  · simp; first | done | (split <;> omega)
  · split
    · rename_i h; simp [h.2]
    · simp; first | done | omega
theorem foldP_len (k : KeyT) : ∀ (l : List KeyT) (s : List KeyT × Bool), (l.foldl (stepP k) s).1.length + (if (l.foldl (stepP k) s).2 then 0 else 1) ≤ s.1.length + (if s.2 then 0 else 1) + l.length
  | [], s => Nat.le_refl _
  | x :: r, s => by
    have h1 := foldP_len k r (stepP k s x)
    have h2 := stepP_len k s x
    rw [List.foldl_cons, List.length_cons]
    omega
theorem putK_len (l : List KeyT) (k : KeyT) : (putK l k).length ≤ l.length + 1 := by
  have := foldP_len k l ([], false)
  unfold putK foldP
  split
  · rename_i h; rw [h] at this; simp at this; omega
  · rename_i h; simp [h] at this; simp; first | done | omega
theorem foldP_le (k : KeyT) (l : List KeyT) : (foldP k l).1.length ≤ l.length + 1 := by
  have := foldP_len k l ([], false)
  unfold foldP
  simp at this
  omega
theorem subH_drop {a : Ent} : ∀ {Y L : Hp}, fresh a.blk Y → subH L Y → subH (a :: L) Y
  | [], _, _, _ => trivial
  | e :: r, L, hf, hh => by
    refine ⟨by simp only [findE]; rw [if_neg hf.2.1]; exact hh.1, ?_⟩
    simp only [remE]
    rw [if_neg hf.2.1]
    exact subH_drop hf.2.2 hh.2
theorem sub_new {N X : Hp} (h1 : marksOf N = []) (h2 : marksOf X = []) : N.Sublist (dropM (N ++ X)) := by
  rw [dropM_eq (by rw [marks_append, h1, h2]; rfl)]
  exact List.sublist_append_left _ _
theorem keyC_one (k : KeyT) : [k].flatMap KeyT.cells = k.cells := by simp
theorem keyC_app (l m : List KeyT) : (l ++ m).flatMap KeyT.cells = l.flatMap KeyT.cells ++ m.flatMap KeyT.cells := List.flatMap_append
end Go.Ev
namespace Go.Proofs.YtfioapldbajpmaaDoor
open Go Go.Ev Go.Proofs
set_option maxRecDepth 100000
set_option maxHeartbeats 4000000
noncomputable def gK1 : Gam := (addG 76 ordG gK0)
attribute [push_cast] gK1
theorem gK1_ok : GamOk Tryd.prog gK1 := (addG_ok rordG_ok gK0_ok)
def plPut : Plans := fun i => if i = 1 then [(0, 9)] else if i = 14 then [(0, 9)] else Tryd.pl68 i
attribute [push_cast] plPut
/-- a list of keys in memory of its own -/
abbrev OutKy (l : List KeyT) (v : Value) (N : Hp) : Prop := OutC 58 25 (l.flatMap KeyT.cells) l.length v N
theorem rput_ok {M : Hp} {l : List KeyT} {v : Value} {k : KeyT} (hv : LiR KeyT.cells 25 M l v) (hm : marksOf M = []) (hn : l.length ≤ 1000000) : CallsV Tryd.prog 68 [v, k.v] M (OutKy (putK l k)) := by
  obtain ⟨p, c, rfl, hl⟩ := hv.open (fun x => x.len) (by decide)
  refine callsO gK1_ok Tryd.mix plPut Tryd.func68 rfl Tryd.ntmps68 Tryd.results68 rfl (by first | rfl | assumption) (Nat.le_of_ble_eq_true rfl) (by kernel_rfl) ?_
  simp only [push_cast, Nat.reduceAdd, Nat.reduceSub, Nat.reduceMul, Nat.reduceLT, Nat.reduceLeDiff, Nat.reduceEqDiff, Nat.reduceMod, Nat.reduceDiv, Int.reduceAdd, Int.reduceSub, Int.reduceMul, Int.reduceLT, Int.reduceLE, Int.reduceEq, Int.reduceNeg, Int.reduceToNat, reduceIte, reduceCtorEq, Int.reduceBEq, Int.reduceBNe, Bool.true_beq, Bool.false_beq, Bool.true_bne, Bool.false_bne, Bool.not_true, Bool.not_false]
  intro b3 hb3
  refine regO gK1_ok ?_
  simp only [push_cast, Nat.reduceAdd, Nat.reduceSub, Nat.reduceMul, Nat.reduceLT, Nat.reduceLeDiff, Nat.reduceEqDiff, Nat.reduceMod, Nat.reduceDiv, Int.reduceAdd, Int.reduceSub, Int.reduceMul, Int.reduceLT, Int.reduceLE, Int.reduceEq, Int.reduceNeg, Int.reduceToNat, reduceIte, reduceCtorEq, Int.reduceBEq, Int.reduceBNe, Bool.true_beq, Bool.false_beq, Bool.true_bne, Bool.false_bne, Bool.not_true, Bool.not_false]
  refine loopO gK1_ok (pl := plPut) Tryd.mix (X := Nat × Value × Hp)
    (fun s => ([(0, .slice p l.length c), (3, .pointer (some ⟨b3, 0, none⟩)), (5, s.2.1), (6, .bool (foldP k (l.take s.1)).2), (7, .int .i64 s.1)], s.2.2 ++ (⟨b3, 0, .cel 58, k.cells⟩ :: M)))
    (fun s => s.1 ≤ l.length ∧ OutKy (foldP k (l.take s.1)).1 s.2.1 s.2.2 ∧ freshN s.2.2 (⟨b3, 0, .cel 58, k.cells⟩ :: M)) (fun s => l.length - s.1) (0, .slice none 0 0, []) ?_ ?_ (by kernel_rfl) ?_
  · exact ⟨Nat.zero_le _, .nil _ _, trivial⟩
  · simp only [push_cast, Nat.reduceAdd, Nat.reduceSub, Nat.reduceMul, Nat.reduceLT, Nat.reduceLeDiff, Nat.reduceEqDiff, Nat.reduceMod, Nat.reduceDiv, Int.reduceAdd, Int.reduceSub, Int.reduceMul, Int.reduceLT, Int.reduceLE, Int.reduceEq, Int.reduceNeg, Int.reduceToNat, reduceIte, reduceCtorEq, Int.reduceBEq, Int.reduceBNe, Bool.true_beq, Bool.false_beq, Bool.true_bne, Bool.false_bne, Bool.not_true, Bool.not_false, List.take_zero]
    exact ⟨rfl, subH_self _⟩
  · rintro ⟨i, vo, No⟩ ⟨hi, ho, hf⟩
    dsimp only at hi ho hf ⊢
    have fb : ∀ {N : Hp}, freshN N (⟨b3, 0, .cel 58, k.cells⟩ :: M) → findE (N ++ (⟨b3, 0, .cel 58, k.cells⟩ :: M)) b3 = some ⟨b3, 0, .cel 58, k.cells⟩ := fun hf => by
      rw [findE_freshN hf (b := b3) (e := ⟨b3, 0, .cel 58, k.cells⟩) (by simp [findE])]; simp [findE]
    rcases Nat.lt_or_ge i l.length with hlt | hge
    · obtain ⟨x, hx⟩ : ∃ x, l[i]? = some x := ⟨l[i], List.getElem?_eq_getElem hlt⟩
      obtain h0 | ⟨b, f, d, kd, cs, rfl, he, hat, -, -⟩ := hl
      · rw [h0] at hlt; exact absurd hlt (Nat.not_lt_zero _)
      obtain ⟨a1, a2⟩ := hat i x hx 0 25 (Nat.le_refl _)
      rw [Nat.add_zero] at a1 a2
      rw [List.drop_zero, x.take25] at a2
      have hbb : ¬ b = b3 := (fresh_findS hb3 he).2
      have fl : ∀ {N : Hp}, freshN N (⟨b3, 0, .cel 58, k.cells⟩ :: M) → findE (N ++ (⟨b3, 0, .cel 58, k.cells⟩ :: M)) b = some ⟨b, f, kd, cs⟩ := fun hf => by
        have h1 : findE (⟨b3, 0, .cel 58, k.cells⟩ :: M) b = some ⟨b, f, kd, cs⟩ := by simp only [findE, if_neg hbb]; exact he
        rw [findE_freshN hf (b := b) h1]; exact h1
      have hst := foldP_take (k := k) hx
      have hle := foldP_le k (l.take i)
      have hlk : (l.take i).length ≤ 1000000 := by rw [List.length_take]; omega
      have i1 : (i : Int) < (l.length : Int) := by omega
      have fb0 := fb hf
      have fl0 := fl hf
      obtain ⟨n, hnn⟩ : ∃ n, n = ordI k x := ⟨_, rfl⟩
      unfold stepP at hst
      rw [← hnn] at hst
      have one : ∀ {y : KeyT} {N : Hp} {X : Hp} {w : Value} {q : List KeyT} {b15 : Nat} {K : Value → Hp → Prop}, OutKy q w N → q.length ≤ 1000002 → fresh b15 (N ++ X) →
          (∀ v' N', OutKy (q ++ [y]) v' N' → freshN N' (⟨b15, 0, .vec 58 25 1, y.cells⟩ :: X) → K v' (N' ++ ⟨b15, 0, .vec 58 25 1, y.cells⟩ :: X)) →
          evAppend Tryd.prog (⟨b15, 0, .vec 58 25 1, y.cells⟩ :: (N ++ X)) 28 28 w (.slice (some ⟨b15, 0, none⟩) 1 1) K := fun {y N X w q b15 K} hq hql hb hk => by
        refine append_out1 (e := 58) (sz := 25) (by_ := 56) (n := q.length) (m := 1) (ys := y.cells) hq hb (by simp only [push_cast, Nat.reduceAdd, Nat.reduceSub, Nat.reduceMul, Nat.reduceLT, Nat.reduceLeDiff, Nat.reduceEqDiff, Nat.reduceMod, Nat.reduceDiv, Int.reduceAdd, Int.reduceSub, Int.reduceMul, Int.reduceLT, Int.reduceLE, Int.reduceEq, Int.reduceNeg, Int.reduceToNat, reduceIte, reduceCtorEq, Int.reduceBEq, Int.reduceBNe, Bool.true_beq, Bool.false_beq, Bool.true_bne, Bool.false_bne, Bool.not_true, Bool.not_false]) (by simp only [push_cast, Nat.reduceAdd, Nat.reduceSub, Nat.reduceMul, Nat.reduceLT, Nat.reduceLeDiff, Nat.reduceEqDiff, Nat.reduceMod, Nat.reduceDiv, Int.reduceAdd, Int.reduceSub, Int.reduceMul, Int.reduceLT, Int.reduceLE, Int.reduceEq, Int.reduceNeg, Int.reduceToNat, reduceIte, reduceCtorEq, Int.reduceBEq, Int.reduceBNe, Bool.true_beq, Bool.false_beq, Bool.true_bne, Bool.false_bne, Bool.not_true, Bool.not_false]) y.len y.all1 (by unfold two47; omega) fun v' N' h1 h2 => hk v' N' ?_ h2
        unfold OutKy
        rw [keyC_app, keyC_one, List.length_append]
        exact h1
      rcases Int.lt_trichotomy n 0 with h | h | h
      · have e1 : (n == 0) = false := beq_eq_false_iff_ne.2 (by omega)
        rw [if_neg (by omega)] at hst
        cases hd : (foldP k (l.take i)).2
        · rw [if_pos ⟨h, hd⟩] at hst
          simp only [push_cast, Nat.reduceAdd, Nat.reduceSub, Nat.reduceMul, Nat.reduceLT, Nat.reduceLeDiff, Nat.reduceEqDiff, Nat.reduceMod, Nat.reduceDiv, Int.reduceAdd, Int.reduceSub, Int.reduceMul, Int.reduceLT, Int.reduceLE, Int.reduceEq, Int.reduceNeg, Int.reduceToNat, reduceIte, reduceCtorEq, Int.reduceBEq, Int.reduceBNe, Bool.true_beq, Bool.false_beq, Bool.true_bne, Bool.false_bne, Bool.not_true, Bool.not_false, i1, fb0, fl0, a1, a2, ← hnn, h, e1, hd]
          intro b15 hb15
          refine one (y := k) ho (by omega) hb15 fun v' N' ho' hf' => ?_
          have hfX := freshN_cons hf'
          have fl1 : findE (N' ++ ⟨b15, 0, .vec 58 25 1, k.cells⟩ :: ⟨b3, 0, .cel 58, k.cells⟩ :: M) b = some ⟨b, f, kd, cs⟩ := by
            have h1 : findE (⟨b15, 0, .vec 58 25 1, k.cells⟩ :: ⟨b3, 0, .cel 58, k.cells⟩ :: M) b = some ⟨b, f, kd, cs⟩ := by
              have := (fresh_findS hb15 fl0).2
              simp only [findE, if_neg this, if_neg hbb]; exact he
            rw [findE_freshN hf' (b := b) h1]; exact h1
          simp only [push_cast, Nat.reduceAdd, Nat.reduceSub, Nat.reduceMul, Nat.reduceLT, Nat.reduceLeDiff, Nat.reduceEqDiff, Nat.reduceMod, Nat.reduceDiv, Int.reduceAdd, Int.reduceSub, Int.reduceMul, Int.reduceLT, Int.reduceLE, Int.reduceEq, Int.reduceNeg, Int.reduceToNat, reduceIte, reduceCtorEq, Int.reduceBEq, Int.reduceBNe, Bool.true_beq, Bool.false_beq, Bool.true_bne, Bool.false_bne, Bool.not_true, Bool.not_false, i1, fl1, a1, a2]
          intro b16 hb16
          refine one (y := x) ho' (by rw [List.length_append]; simp; omega) hb16 fun v'' N'' ho'' hf'' => ?_
          simp only [push_cast, Nat.reduceAdd, Nat.reduceSub, Nat.reduceMul, Nat.reduceLT, Nat.reduceLeDiff, Nat.reduceEqDiff, Nat.reduceMod, Nat.reduceDiv, Int.reduceAdd, Int.reduceSub, Int.reduceMul, Int.reduceLT, Int.reduceLE, Int.reduceEq, Int.reduceNeg, Int.reduceToNat, reduceIte, reduceCtorEq, Int.reduceBEq, Int.reduceBNe, Bool.true_beq, Bool.false_beq, Bool.true_bne, Bool.false_bne, Bool.not_true, Bool.not_false, wrap_i64' (show -9223372036854775808 ≤ (i : Int) + 1 ∧ (i : Int) + 1 ≤ 9223372036854775807 by omega)]
          refine ⟨(i + 1, v'', N''), ⟨hlt, by dsimp only; rw [hst]; exact ho'', freshN_cons (freshN_cons hf'')⟩, by dsimp only; omega, ⟨rfl, by rw [hst]; exact ⟨rfl, rfl⟩⟩, ?_, ?_⟩
          · refine subH_pre ?_ _
            exact subH_drop (fresh_app hb16).2.2 (subH_cons (fresh_app hb15))
          · simp only [marks_append, marksOf, ho.wr.2, ho''.wr.2]
        · rw [if_neg (by rw [hd]; simp)] at hst
          simp only [push_cast, Nat.reduceAdd, Nat.reduceSub, Nat.reduceMul, Nat.reduceLT, Nat.reduceLeDiff, Nat.reduceEqDiff, Nat.reduceMod, Nat.reduceDiv, Int.reduceAdd, Int.reduceSub, Int.reduceMul, Int.reduceLT, Int.reduceLE, Int.reduceEq, Int.reduceNeg, Int.reduceToNat, reduceIte, reduceCtorEq, Int.reduceBEq, Int.reduceBNe, Bool.true_beq, Bool.false_beq, Bool.true_bne, Bool.false_bne, Bool.not_true, Bool.not_false, i1, fb0, fl0, a1, a2, ← hnn, h, e1, hd]
          intro b16 hb16
          refine one (y := x) ho (by omega) hb16 fun v'' N'' ho'' hf'' => ?_
          simp only [push_cast, Nat.reduceAdd, Nat.reduceSub, Nat.reduceMul, Nat.reduceLT, Nat.reduceLeDiff, Nat.reduceEqDiff, Nat.reduceMod, Nat.reduceDiv, Int.reduceAdd, Int.reduceSub, Int.reduceMul, Int.reduceLT, Int.reduceLE, Int.reduceEq, Int.reduceNeg, Int.reduceToNat, reduceIte, reduceCtorEq, Int.reduceBEq, Int.reduceBNe, Bool.true_beq, Bool.false_beq, Bool.true_bne, Bool.false_bne, Bool.not_true, Bool.not_false, wrap_i64' (show -9223372036854775808 ≤ (i : Int) + 1 ∧ (i : Int) + 1 ≤ 9223372036854775807 by omega)]
          exact ⟨(i + 1, v'', N''), ⟨hlt, by dsimp only; rw [hst]; exact ho'', freshN_cons hf''⟩, by dsimp only; omega, ⟨rfl, by rw [hst, hd], rfl⟩, subH_pre (subH_cons (fresh_app hb16)) _, by simp only [marks_append, marksOf, ho.wr.2, ho''.wr.2]⟩
      · have e1 : (n == 0) = true := by rw [h]; rfl
        rw [if_pos h] at hst
        have e2 : ¬ n < 0 := by omega
        simp only [push_cast, Nat.reduceAdd, Nat.reduceSub, Nat.reduceMul, Nat.reduceLT, Nat.reduceLeDiff, Nat.reduceEqDiff, Nat.reduceMod, Nat.reduceDiv, Int.reduceAdd, Int.reduceSub, Int.reduceMul, Int.reduceLT, Int.reduceLE, Int.reduceEq, Int.reduceNeg, Int.reduceToNat, reduceIte, reduceCtorEq, Int.reduceBEq, Int.reduceBNe, Bool.true_beq, Bool.false_beq, Bool.true_bne, Bool.false_bne, Bool.not_true, Bool.not_false, i1, fb0, fl0, a1, a2, ← hnn, e1, e2]
        intro b16 hb16
        refine one (y := x) ho (by omega) hb16 fun v'' N'' ho'' hf'' => ?_
        simp only [push_cast, Nat.reduceAdd, Nat.reduceSub, Nat.reduceMul, Nat.reduceLT, Nat.reduceLeDiff, Nat.reduceEqDiff, Nat.reduceMod, Nat.reduceDiv, Int.reduceAdd, Int.reduceSub, Int.reduceMul, Int.reduceLT, Int.reduceLE, Int.reduceEq, Int.reduceNeg, Int.reduceToNat, reduceIte, reduceCtorEq, Int.reduceBEq, Int.reduceBNe, Bool.true_beq, Bool.false_beq, Bool.true_bne, Bool.false_bne, Bool.not_true, Bool.not_false, wrap_i64' (show -9223372036854775808 ≤ (i : Int) + 1 ∧ (i : Int) + 1 ≤ 9223372036854775807 by omega)]
        exact ⟨(i + 1, v'', N''), ⟨hlt, by dsimp only; rw [hst]; exact ho'', freshN_cons hf''⟩, by dsimp only; omega, ⟨rfl, by rw [hst], rfl⟩, subH_pre (subH_cons (fresh_app hb16)) _, by simp only [marks_append, marksOf, ho.wr.2, ho''.wr.2]⟩
      · have e1 : (n == 0) = false := beq_eq_false_iff_ne.2 (by omega)
        rw [if_neg (by omega), if_neg (by omega)] at hst
        have e2 : ¬ n < 0 := by omega
        simp only [push_cast, Nat.reduceAdd, Nat.reduceSub, Nat.reduceMul, Nat.reduceLT, Nat.reduceLeDiff, Nat.reduceEqDiff, Nat.reduceMod, Nat.reduceDiv, Int.reduceAdd, Int.reduceSub, Int.reduceMul, Int.reduceLT, Int.reduceLE, Int.reduceEq, Int.reduceNeg, Int.reduceToNat, reduceIte, reduceCtorEq, Int.reduceBEq, Int.reduceBNe, Bool.true_beq, Bool.false_beq, Bool.true_bne, Bool.false_bne, Bool.not_true, Bool.not_false, i1, fb0, fl0, a1, a2, ← hnn, e1, e2]
        intro b16 hb16
        refine one (y := x) ho (by omega) hb16 fun v'' N'' ho'' hf'' => ?_
        simp only [push_cast, Nat.reduceAdd, Nat.reduceSub, Nat.reduceMul, Nat.reduceLT, Nat.reduceLeDiff, Nat.reduceEqDiff, Nat.reduceMod, Nat.reduceDiv, Int.reduceAdd, Int.reduceSub, Int.reduceMul, Int.reduceLT, Int.reduceLE, Int.reduceEq, Int.reduceNeg, Int.reduceToNat, reduceIte, reduceCtorEq, Int.reduceBEq, Int.reduceBNe, Bool.true_beq, Bool.false_beq, Bool.true_bne, Bool.false_bne, Bool.not_true, Bool.not_false, wrap_i64' (show -9223372036854775808 ≤ (i : Int) + 1 ∧ (i : Int) + 1 ≤ 9223372036854775807 by omega)]
        exact ⟨(i + 1, v'', N''), ⟨hlt, by dsimp only; rw [hst]; exact ho'', freshN_cons hf''⟩, by dsimp only; omega, ⟨rfl, by rw [hst], rfl⟩, subH_pre (subH_cons (fresh_app hb16)) _, by simp only [marks_append, marksOf, ho.wr.2, ho''.wr.2]⟩
    · obtain rfl : i = l.length := by omega
      have fb0 := fb hf
      rw [List.take_length] at ho ⊢
      have hle := foldP_le k l
      cases hd : (foldP k l).2
      · have hp : putK l k = (foldP k l).1 ++ [k] := by unfold putK; rw [hd]; rfl
        rw [hp]
        simp only [push_cast, Nat.reduceAdd, Nat.reduceSub, Nat.reduceMul, Nat.reduceLT, Nat.reduceLeDiff, Nat.reduceEqDiff, Nat.reduceMod, Nat.reduceDiv, Int.reduceAdd, Int.reduceSub, Int.reduceMul, Int.reduceLT, Int.reduceLE, Int.reduceEq, Int.reduceNeg, Int.reduceToNat, reduceIte, reduceCtorEq, Int.reduceBEq, Int.reduceBNe, Bool.true_beq, Bool.false_beq, Bool.true_bne, Bool.false_bne, Bool.not_true, Bool.not_false, Nat.lt_irrefl, hd]
        refine regO gK1_ok ?_
        simp only [push_cast, Nat.reduceAdd, Nat.reduceSub, Nat.reduceMul, Nat.reduceLT, Nat.reduceLeDiff, Nat.reduceEqDiff, Nat.reduceMod, Nat.reduceDiv, Int.reduceAdd, Int.reduceSub, Int.reduceMul, Int.reduceLT, Int.reduceLE, Int.reduceEq, Int.reduceNeg, Int.reduceToNat, reduceIte, reduceCtorEq, Int.reduceBEq, Int.reduceBNe, Bool.true_beq, Bool.false_beq, Bool.true_bne, Bool.false_bne, Bool.not_true, Bool.not_false, fb0]
        intro b16 hb16
        refine append_out1 (e := 58) (sz := 25) (by_ := 56) (n := (foldP k l).1.length) (m := 1) (ys := k.cells) ho hb16 (by simp only [push_cast, Nat.reduceAdd, Nat.reduceSub, Nat.reduceMul, Nat.reduceLT, Nat.reduceLeDiff, Nat.reduceEqDiff, Nat.reduceMod, Nat.reduceDiv, Int.reduceAdd, Int.reduceSub, Int.reduceMul, Int.reduceLT, Int.reduceLE, Int.reduceEq, Int.reduceNeg, Int.reduceToNat, reduceIte, reduceCtorEq, Int.reduceBEq, Int.reduceBNe, Bool.true_beq, Bool.false_beq, Bool.true_bne, Bool.false_bne, Bool.not_true, Bool.not_false]) (by simp only [push_cast, Nat.reduceAdd, Nat.reduceSub, Nat.reduceMul, Nat.reduceLT, Nat.reduceLeDiff, Nat.reduceEqDiff, Nat.reduceMod, Nat.reduceDiv, Int.reduceAdd, Int.reduceSub, Int.reduceMul, Int.reduceLT, Int.reduceLE, Int.reduceEq, Int.reduceNeg, Int.reduceToNat, reduceIte, reduceCtorEq, Int.reduceBEq, Int.reduceBNe, Bool.true_beq, Bool.false_beq, Bool.true_bne, Bool.false_bne, Bool.not_true, Bool.not_false]) k.len k.all1 (by unfold two47; omega) fun v'' N'' ho'' hf'' => ?_
        simp only [push_cast, Nat.reduceAdd, Nat.reduceSub, Nat.reduceMul, Nat.reduceLT, Nat.reduceLeDiff, Nat.reduceEqDiff, Nat.reduceMod, Nat.reduceDiv, Int.reduceAdd, Int.reduceSub, Int.reduceMul, Int.reduceLT, Int.reduceLE, Int.reduceEq, Int.reduceNeg, Int.reduceToNat, reduceIte, reduceCtorEq, Int.reduceBEq, Int.reduceBNe, Bool.true_beq, Bool.false_beq, Bool.true_bne, Bool.false_bne, Bool.not_true, Bool.not_false]
        refine ⟨N'', sub_new ho''.wr.2 (by simp only [marksOf, hm]), ?_⟩
        unfold OutKy
        rw [keyC_app, keyC_one, List.length_append]
        exact ho''
      · have hp : putK l k = (foldP k l).1 := by unfold putK; rw [hd]; rfl
        rw [hp]
        simp only [push_cast, Nat.reduceAdd, Nat.reduceSub, Nat.reduceMul, Nat.reduceLT, Nat.reduceLeDiff, Nat.reduceEqDiff, Nat.reduceMod, Nat.reduceDiv, Int.reduceAdd, Int.reduceSub, Int.reduceMul, Int.reduceLT, Int.reduceLE, Int.reduceEq, Int.reduceNeg, Int.reduceToNat, reduceIte, reduceCtorEq, Int.reduceBEq, Int.reduceBNe, Bool.true_beq, Bool.false_beq, Bool.true_bne, Bool.false_bne, Bool.not_true, Bool.not_false, Nat.lt_irrefl, hd]
        exact ⟨No, sub_new ho.wr.2 (by simp only [marksOf, hm]), ho⟩
/-- a list of keys in new memory, as a contract over whatever memory there is -/
def KeyQ (l : List KeyT) : Value → Hp → Prop := fun v H => LiR KeyT.cells 25 H l v
theorem KeyQ.rd (l : List KeyT) : RdOnly (KeyQ l) := LiR.rd l
theorem OutKy.newK {M0 : Hp} {l : List KeyT} {v : Value} {N : Hp} (h : OutKy l v N) : NewK M0 (KeyQ l) v N := ⟨h.wr.1, h.wr.2, fun _ => h.liR rfl rfl M0⟩
theorem rput_R {M : Hp} {l : List KeyT} {v : Value} {k : KeyT} (hv : LiR KeyT.cells 25 M l v) (hn : l.length ≤ 1000000) : CallsR Tryd.prog 68 [v, k.v] M (KeyQ (putK l k)) :=
  fun _ hr he => CallsV.toK (rput_ok (hv.congr he.symm) hr.marks hn) fun _ _ h => h.newK
/-- a list of keys, made a set -/
noncomputable def setK (l : List KeyT) : List KeyT := l.foldl putK []
theorem setK_take {l : List KeyT} {i : Nat} {x : KeyT} (h : l[i]? = some x) : setK (l.take (i + 1)) = putK (setK (l.take i)) x := by
  obtain ⟨hi, hx⟩ := List.getElem?_eq_some_iff.1 h
  unfold setK
  rw [List.take_succ_eq_append_getElem hi, List.foldl_append, hx]; rfl
theorem setK_len (l : List KeyT) : (setK l).length ≤ l.length := by
  have h : ∀ (l s : List KeyT), (l.foldl putK s).length ≤ s.length + l.length := by
    intro l
    induction l with
    | nil => intro s; exact Nat.le_refl _
    | cons x r ih =>
      intro s
      have h1 := ih (putK s x)
      have h2 := putK_len s x
      rw [List.foldl_cons, List.length_cons]
      omega
  have := h l []
  simpa [setK] using this
theorem rset_ok {M : Hp} {l : List KeyT} {v : Value} (hv : LiR KeyT.cells 25 M l v) (hm : marksOf M = []) (hn : l.length ≤ 1000000) : CallsV Tryd.prog 56 [v] M (NewK M (KeyQ (setK l))) := by
  obtain ⟨p, c, rfl, hl⟩ := hv.open (fun x => x.len) (by decide)
  refine callsO (noG_ok _) Tryd.mix Tryd.pl56 Tryd.func56 rfl Tryd.ntmps56 Tryd.results56 rfl (by first | rfl | assumption) (Nat.le_of_ble_eq_true rfl) (by kernel_rfl) ?_
  simp only [push_cast, Nat.reduceAdd, Nat.reduceSub, Nat.reduceMul, Nat.reduceLT, Nat.reduceLeDiff, Nat.reduceEqDiff, Nat.reduceMod, Nat.reduceDiv, Int.reduceAdd, Int.reduceSub, Int.reduceMul, Int.reduceLT, Int.reduceLE, Int.reduceEq, Int.reduceNeg, Int.reduceToNat, reduceIte, reduceCtorEq, Int.reduceBEq, Int.reduceBNe, Bool.true_beq, Bool.false_beq, Bool.true_bne, Bool.false_bne, Bool.not_true, Bool.not_false]
  refine loopO (noG_ok _) (pl := Tryd.pl56) Tryd.mix (X := Nat × Value × Hp)
    (fun s => ([(0, .slice p l.length c), (3, s.2.1), (4, .int .i64 s.1)], s.2.2))
    (fun s => s.1 ≤ l.length ∧ Gr M s.2.2 ∧ KeyQ (setK (l.take s.1)) s.2.1 s.2.2) (fun s => l.length - s.1) (0, .slice none 0 0, M) ?_ ?_ (by kernel_rfl) ?_
  · exact ⟨Nat.zero_le _, .refl hm, .nil _ _⟩
  · simp only [push_cast, Nat.reduceAdd, Nat.reduceSub, Nat.reduceMul, Nat.reduceLT, Nat.reduceLeDiff, Nat.reduceEqDiff, Nat.reduceMod, Nat.reduceDiv, Int.reduceAdd, Int.reduceSub, Int.reduceMul, Int.reduceLT, Int.reduceLE, Int.reduceEq, Int.reduceNeg, Int.reduceToNat, reduceIte, reduceCtorEq, Int.reduceBEq, Int.reduceBNe, Bool.true_beq, Bool.false_beq, Bool.true_bne, Bool.false_bne, Bool.not_true, Bool.not_false]
    exact subH_self _
  · rintro ⟨i, vo, M1⟩ ⟨hi, hx1, hq⟩
    dsimp only at hi hx1 hq ⊢
    rcases Nat.lt_or_ge i l.length with hlt | hge
    · obtain ⟨x, hx⟩ : ∃ x, l[i]? = some x := ⟨l[i], List.getElem?_eq_getElem hlt⟩
      obtain ⟨p1, c1, e1, hl1⟩ := (hv.ext hx1.ext).open (fun x => x.len) (by decide)
      simp only [Value.slice.injEq] at e1
      obtain ⟨rfl, -, rfl⟩ := e1
      obtain h0 | ⟨b, f, d, kd, cs, rfl, he, hat, -, -⟩ := hl1
      · rw [h0] at hlt; exact absurd hlt (Nat.not_lt_zero _)
      obtain ⟨a1, a2⟩ := hat i x hx 0 25 (Nat.le_refl _)
      rw [Nat.add_zero] at a1 a2
      rw [List.drop_zero, x.take25] at a2
      have i1 : (i : Int) < (l.length : Int) := by omega
      have hsl := setK_len (l.take i)
      have hlk : (l.take i).length ≤ 1000000 := by rw [List.length_take]; omega
      simp only [push_cast, Nat.reduceAdd, Nat.reduceSub, Nat.reduceMul, Nat.reduceLT, Nat.reduceLeDiff, Nat.reduceEqDiff, Nat.reduceMod, Nat.reduceDiv, Int.reduceAdd, Int.reduceSub, Int.reduceMul, Int.reduceLT, Int.reduceLE, Int.reduceEq, Int.reduceNeg, Int.reduceToNat, reduceIte, reduceCtorEq, Int.reduceBEq, Int.reduceBNe, Bool.true_beq, Bool.false_beq, Bool.true_bne, Bool.false_bne, Bool.not_true, Bool.not_false, i1, he, a1, a2]
      refine useL [] (rput_R hq (by omega)) (KeyQ.rd _) hx1.marks trivial fun v' M' hx2 _ hq' => ?_
      simp only [push_cast, Nat.reduceAdd, Nat.reduceSub, Nat.reduceMul, Nat.reduceLT, Nat.reduceLeDiff, Nat.reduceEqDiff, Nat.reduceMod, Nat.reduceDiv, Int.reduceAdd, Int.reduceSub, Int.reduceMul, Int.reduceLT, Int.reduceLE, Int.reduceEq, Int.reduceNeg, Int.reduceToNat, reduceIte, reduceCtorEq, Int.reduceBEq, Int.reduceBNe, Bool.true_beq, Bool.false_beq, Bool.true_bne, Bool.false_bne, Bool.not_true, Bool.not_false, wrap_i64' (show -9223372036854775808 ≤ (i : Int) + 1 ∧ (i : Int) + 1 ≤ 9223372036854775807 by omega)]
      exact ⟨(i + 1, v', M'), ⟨hlt, hx1.trans hx2, by dsimp only; rw [setK_take hx]; exact hq'⟩, by dsimp only; omega, ⟨rfl, rfl⟩, subH_self _, rfl⟩
    · obtain rfl : i = l.length := by omega
      rw [List.take_length] at hq
      simp only [push_cast, Nat.reduceAdd, Nat.reduceSub, Nat.reduceMul, Nat.reduceLT, Nat.reduceLeDiff, Nat.reduceEqDiff, Nat.reduceMod, Nat.reduceDiv, Int.reduceAdd, Int.reduceSub, Int.reduceMul, Int.reduceLT, Int.reduceLE, Int.reduceEq, Int.reduceNeg, Int.reduceToNat, reduceIte, reduceCtorEq, Int.reduceBEq, Int.reduceBNe, Bool.true_beq, Bool.false_beq, Bool.true_bne, Bool.false_bne, Bool.not_true, Bool.not_false, Nat.lt_irrefl]
      exact doneK (L := []) hx1 rfl (KeyQ.rd _) hq
theorem rset_R {M : Hp} {l : List KeyT} {v : Value} (hv : LiR KeyT.cells 25 M l v) (hn : l.length ≤ 1000000) : CallsR Tryd.prog 56 [v] M (KeyQ (setK l)) :=
  fun _ hr he => rset_ok (hv.congr he.symm) hr.marks hn
end Go.Proofs.YtfioapldbajpmaaDoor
