/- Gh: Concat of two lists of keys; Declared. -/
import Derived.Test.YtfioapldbajpmaaDoorGg
set_option linter.unusedSimpArgs false
set_option linter.unusedVariables false
namespace Go.Ev
/-- as OutC; the slice of no elements may have room -/
def OutG (e s : Nat) (cs : List Value) (n : Nat) (v : Value) (N : Hp) : Prop :=
  (n = 0 ∧ cs = [] ∧ v = .slice none 0 0 ∧ N = []) ∨ ∃ b c, v = .slice (some ⟨b, 0, none⟩) n c ∧ n ≤ c ∧ cs.length = n * s ∧ N = [⟨b, 0, .vec e s c, cs⟩]
theorem OutG.wr {e s n : Nat} {cs : List Value} {v : Value} {N : Hp} (h : OutG e s cs n v N) : allWr N ∧ marksOf N = [] := by
  rcases h with ⟨_, _, _, rfl⟩ | ⟨b, c, _, _, _, rfl⟩
  · exact ⟨trivial, rfl⟩
  · exact ⟨⟨trivial, trivial⟩, rfl⟩
theorem append_g {P : Program} {X N : Hp} {st xt e sz by_ n m : Nat} {cs ys : List Value} {v x : Value} {K : Value → Hp → Prop} (ho : OutG e sz cs n v N) (hs : slI P st = some (e, sz, by_)) (hx : srcL P (N ++ X) xt x sz = some (ys, m)) (hl : ys.length = m * sz) (h1 : ys.all oneC = true) (hb : (n + m) * by_ ≤ two47)
    (hk : ∀ v' N', OutG e sz (cs ++ ys) (n + m) v' N' → freshN N' X → K v' (N' ++ X)) : evAppend P (N ++ X) st xt v x K := by
  unfold evAppend
  rw [hs]
  dsimp only
  rw [hx]
  dsimp only
  rcases ho with ⟨rfl, rfl, rfl, rfl⟩ | ⟨b, c, rfl, hc, hcl, rfl⟩
  · refine ⟨⟨rfl, rfl⟩, fun hm => ?_, fun hm => ⟨by simpa using hb, fun b c' hf hc' => ?_⟩⟩
    · subst hm
      have : ys = [] := List.length_eq_zero_iff.1 (by simpa using hl)
      subst this
      exact hk _ [] (.inl ⟨rfl, rfl, rfl, rfl⟩) trivial
    · have := hk (.slice (some ⟨b, 0, none⟩) (0 + m) c') [⟨b, 0, .vec e sz c', [] ++ ys⟩] (.inr ⟨b, c', rfl, by omega, by simpa using hl, rfl⟩) ⟨hf, trivial⟩
      rw [Nat.zero_add] at this
      exact this
  · simp only [List.cons_append, List.nil_append, findE, remE, if_true]
    refine ⟨⟨trivial, trivial, trivial, trivial, hcl⟩, hb, h1, fun b' c' hf hc' => ?_⟩
    exact hk _ [⟨b', 0, .vec e sz c', cs ++ ys⟩] (.inr ⟨b', c', rfl, hc', by rw [List.length_append, hcl, hl, Nat.add_mul], rfl⟩) ⟨hf, trivial⟩
theorem LiR.src {α : Type} {c : α → List Value} {s : Nat} {H : Hp} {l : List α} {v : Value} {P : Program} {xt : TypeId} {q : Nat} {ag : Bool} (hl : LiR c s H l v) (hx : elemI P xt = some (none, q, ag)) : srcL P H xt v s = some (l.flatMap c, l.length) := by
  obtain ⟨p, k, rfl, h1 | ⟨b, o, rfl, h1⟩⟩ := hl
  · subst h1
    cases p with
    | none => unfold srcL; rw [hx]; rfl
    | some a =>
      obtain ⟨b, o, sp⟩ := a
      cases sp with
      | none =>
        unfold srcL
        rw [hx]
        dsimp only
        cases hc : cellsAt H b o (([] : List α).length * s) with
        | none => rfl
        | some l =>
          have : l = [] := by
            unfold cellsAt at hc
            split at hc
            · split at hc
              · unfold subL at hc
                split at hc
                · simp at hc; simpa using hc.symm
                · cases hc
              · cases hc
            · cases hc
          subst this; rfl
      | some sp => unfold srcL; rw [hx]; rfl
  · unfold srcL
    rw [hx]
    dsimp only
    rw [h1]
theorem LiR.app {α : Type} {c : α → List Value} {s : Nat} {N M : Hp} {l : List α} {v : Value} (hl : LiR c s M l v) (hf : freshN N M) : LiR c s (N ++ M) l v := by
  obtain ⟨p, k, rfl, h1 | ⟨b, o, rfl, h1⟩⟩ := hl
  · exact ⟨p, k, rfl, .inl h1⟩
  · refine ⟨_, k, rfl, .inr ⟨b, o, rfl, ?_⟩⟩
    obtain ⟨e, he⟩ := cellsAt_findS h1
    unfold cellsAt at h1 ⊢
    rw [findE_freshN hf (b := b) he]
    exact h1
theorem keyC_all (l : List KeyT) : (l.flatMap KeyT.cells).all oneC = true := by
  rw [List.all_flatMap]
  exact List.all_eq_true.2 fun x _ => x.all1
end Go.Ev
namespace Go.Proofs.YtfioapldbajpmaaDoor
open Go Go.Ev Go.Proofs
set_option maxRecDepth 100000
set_option maxHeartbeats 4000000
theorem growK_ok (n : Nat) (hn : n ≤ 1000000) : CallsV Tryd.prog 67 [.slice none 0 0, .int .i64 n] [] (OutG 58 25 [] 0) := by
  refine callsO (noG_ok _) Tryd.mix Tryd.pl67 Tryd.func67 rfl Tryd.ntmps67 Tryd.results67 rfl (by first | rfl | assumption) (Nat.le_of_ble_eq_true rfl) (by kernel_rfl) ?_
  have e0 : (0 : Int) - 0 = 0 := rfl
  have n1 : ¬ (n : Int) < 0 := by omega
  rcases Nat.eq_zero_or_pos n with rfl | h
  · simp only [push_cast, Nat.reduceAdd, Nat.reduceSub, Nat.reduceMul, Nat.reduceLT, Nat.reduceLeDiff, Nat.reduceEqDiff, Nat.reduceMod, Nat.reduceDiv, Int.reduceAdd, Int.reduceSub, Int.reduceMul, Int.reduceLT, Int.reduceLE, Int.reduceEq, Int.reduceNeg, Int.reduceToNat, reduceIte, reduceCtorEq, Int.reduceBEq, Int.reduceBNe, Bool.true_beq, Bool.false_beq, Bool.true_bne, Bool.false_bne, Bool.not_true, Bool.not_false, wrap_i64' (show -9223372036854775808 ≤ (0 : Int) ∧ (0 : Int) ≤ 9223372036854775807 by omega), e0, Int.sub_zero, Int.lt_irrefl]
    exact ⟨[], List.nil_sublist _, .inl ⟨rfl, rfl, rfl, rfl⟩⟩
  · have n2 : (0 : Int) < (n : Int) := by omega
    have n4 : n * 56 ≤ two47 := by unfold two47; omega
    have n5 : ¬ (n : Int) = 0 := by omega
    have n6 : (0 : Int) ≤ (n : Int) := by omega
    simp only [push_cast, Nat.reduceAdd, Nat.reduceSub, Nat.reduceMul, Nat.reduceLT, Nat.reduceLeDiff, Nat.reduceEqDiff, Nat.reduceMod, Nat.reduceDiv, Int.reduceAdd, Int.reduceSub, Int.reduceMul, Int.reduceLT, Int.reduceLE, Int.reduceEq, Int.reduceNeg, Int.reduceToNat, reduceIte, reduceCtorEq, Int.reduceBEq, Int.reduceBNe, Bool.true_beq, Bool.false_beq, Bool.true_bne, Bool.false_bne, Bool.not_true, Bool.not_false, wrap_i64' (show -9223372036854775808 ≤ (0 : Int) ∧ (0 : Int) ≤ 9223372036854775807 by omega), e0, Int.sub_zero, n1, h, wrap_i64' (show -9223372036854775808 ≤ (n : Int) ∧ (n : Int) ≤ 9223372036854775807 by omega), n4, n5, n6]
    intro b c hc
    rw [ite_self]
    exact ⟨_, List.Sublist.refl _, .inr ⟨b, c, rfl, Nat.zero_le _, rfl, rfl⟩⟩
theorem concat_ok {M : Hp} {R W' : List KeyT} {vr vw : Value} {bx : Nat} {kx : Kind} {cx : Nat} (hr : LiR KeyT.cells 25 M R vr) (hw : LiR KeyT.cells 25 M W' vw) (hm : marksOf M = []) (hx : findE M bx = some ⟨bx, 0, kx, [vr, vw]⟩) (hrn : R.length ≤ 400000) (hwn : W'.length ≤ 400000) :
    CallsV Tryd.prog 53 [.slice (some ⟨bx, 0, none⟩) 2 cx] M (OutG 58 25 ((R ++ W').flatMap KeyT.cells) (R ++ W').length) := by
  have hr' := hr
  have hw' := hw
  obtain ⟨pr, cr, rfl, -⟩ := hr'
  obtain ⟨pw, cw, rfl, -⟩ := hw'
  obtain ⟨n, hn⟩ : ∃ n, n = R.length + W'.length := ⟨_, rfl⟩
  have e0 : (0 : Int) + (R.length : Int) = (R.length : Int) := by omega
  have e1 : (R.length : Int) + (W'.length : Int) = (n : Int) := by omega
  have n1 : ¬ (R.length : Int) < 0 := by omega
  have n2 : ¬ (n : Int) < 0 := by omega
  refine callsO (noG_ok _) Tryd.mix Tryd.pl53 Tryd.func53 rfl Tryd.ntmps53 Tryd.results53 rfl (by first | rfl | assumption) (Nat.le_of_ble_eq_true rfl) (by kernel_rfl) ?_
  simp only [push_cast, Nat.reduceAdd, Nat.reduceSub, Nat.reduceMul, Nat.reduceLT, Nat.reduceLeDiff, Nat.reduceEqDiff, Nat.reduceMod, Nat.reduceDiv, Int.reduceAdd, Int.reduceSub, Int.reduceMul, Int.reduceLT, Int.reduceLE, Int.reduceEq, Int.reduceNeg, Int.reduceToNat, reduceIte, reduceCtorEq, Int.reduceBEq, Int.reduceBNe, Bool.true_beq, Bool.false_beq, Bool.true_bne, Bool.false_bne, Bool.not_true, Bool.not_false]
  refine unrollO (noG_ok _) (pl := Tryd.pl53) Tryd.mix 3 (by kernel_rfl) ?_
  simp only [push_cast, Nat.reduceAdd, Nat.reduceSub, Nat.reduceMul, Nat.reduceLT, Nat.reduceLeDiff, Nat.reduceEqDiff, Nat.reduceMod, Nat.reduceDiv, Int.reduceAdd, Int.reduceSub, Int.reduceMul, Int.reduceLT, Int.reduceLE, Int.reduceEq, Int.reduceNeg, Int.reduceToNat, reduceIte, reduceCtorEq, Int.reduceBEq, Int.reduceBNe, Bool.true_beq, Bool.false_beq, Bool.true_bne, Bool.false_bne, Bool.not_true, Bool.not_false, hx, e0, wrap_i64' (show -9223372036854775808 ≤ (R.length : Int) ∧ (R.length : Int) ≤ 9223372036854775807 by omega), n1, e1, wrap_i64' (show -9223372036854775808 ≤ (n : Int) ∧ (n : Int) ≤ 9223372036854775807 by omega), n2, Int.zero_add]
  refine (growK_ok n (by omega)).use trivial ?_
  intro v N hg
  refine ⟨hg.wr.1, hg.wr.2, fun hf => ?_⟩
  have hx1 : findE (N ++ M) bx = some ⟨bx, 0, kx, [.slice pr R.length cr, .slice pw W'.length cw]⟩ := by rw [findE_freshN hf (b := bx) hx]; exact hx
  simp only [push_cast, Nat.reduceAdd, Nat.reduceSub, Nat.reduceMul, Nat.reduceLT, Nat.reduceLeDiff, Nat.reduceEqDiff, Nat.reduceMod, Nat.reduceDiv, Int.reduceAdd, Int.reduceSub, Int.reduceMul, Int.reduceLT, Int.reduceLE, Int.reduceEq, Int.reduceNeg, Int.reduceToNat, reduceIte, reduceCtorEq, Int.reduceBEq, Int.reduceBNe, Bool.true_beq, Bool.false_beq, Bool.true_bne, Bool.false_bne, Bool.not_true, Bool.not_false]
  refine unrollO (noG_ok _) (pl := Tryd.pl53) Tryd.mix 3 (by kernel_rfl) ?_
  simp only [push_cast, Nat.reduceAdd, Nat.reduceSub, Nat.reduceMul, Nat.reduceLT, Nat.reduceLeDiff, Nat.reduceEqDiff, Nat.reduceMod, Nat.reduceDiv, Int.reduceAdd, Int.reduceSub, Int.reduceMul, Int.reduceLT, Int.reduceLE, Int.reduceEq, Int.reduceNeg, Int.reduceToNat, reduceIte, reduceCtorEq, Int.reduceBEq, Int.reduceBNe, Bool.true_beq, Bool.false_beq, Bool.true_bne, Bool.false_bne, Bool.not_true, Bool.not_false, hx1]
  refine append_g (e := 58) (sz := 25) (by_ := 56) (m := R.length) (ys := R.flatMap KeyT.cells) hg (by simp only [push_cast, Nat.reduceAdd, Nat.reduceSub, Nat.reduceMul, Nat.reduceLT, Nat.reduceLeDiff, Nat.reduceEqDiff, Nat.reduceMod, Nat.reduceDiv, Int.reduceAdd, Int.reduceSub, Int.reduceMul, Int.reduceLT, Int.reduceLE, Int.reduceEq, Int.reduceNeg, Int.reduceToNat, reduceIte, reduceCtorEq, Int.reduceBEq, Int.reduceBNe, Bool.true_beq, Bool.false_beq, Bool.true_bne, Bool.false_bne, Bool.not_true, Bool.not_false]) ((hr.app hf).src (q := 25) (ag := true) (by simp only [push_cast, Nat.reduceAdd, Nat.reduceSub, Nat.reduceMul, Nat.reduceLT, Nat.reduceLeDiff, Nat.reduceEqDiff, Nat.reduceMod, Nat.reduceDiv, Int.reduceAdd, Int.reduceSub, Int.reduceMul, Int.reduceLT, Int.reduceLE, Int.reduceEq, Int.reduceNeg, Int.reduceToNat, reduceIte, reduceCtorEq, Int.reduceBEq, Int.reduceBNe, Bool.true_beq, Bool.false_beq, Bool.true_bne, Bool.false_bne, Bool.not_true, Bool.not_false])) (flatMap_len (fun x => KeyT.len x) R) (keyC_all R) (by unfold two47; omega) fun v1 N1 hg1 hf1 => ?_
  have hx2 : findE (N1 ++ M) bx = some ⟨bx, 0, kx, [.slice pr R.length cr, .slice pw W'.length cw]⟩ := by rw [findE_freshN hf1 (b := bx) hx]; exact hx
  simp only [push_cast, Nat.reduceAdd, Nat.reduceSub, Nat.reduceMul, Nat.reduceLT, Nat.reduceLeDiff, Nat.reduceEqDiff, Nat.reduceMod, Nat.reduceDiv, Int.reduceAdd, Int.reduceSub, Int.reduceMul, Int.reduceLT, Int.reduceLE, Int.reduceEq, Int.reduceNeg, Int.reduceToNat, reduceIte, reduceCtorEq, Int.reduceBEq, Int.reduceBNe, Bool.true_beq, Bool.false_beq, Bool.true_bne, Bool.false_bne, Bool.not_true, Bool.not_false, hx2]
  refine append_g (e := 58) (sz := 25) (by_ := 56) (m := W'.length) (ys := W'.flatMap KeyT.cells) hg1 (by simp only [push_cast, Nat.reduceAdd, Nat.reduceSub, Nat.reduceMul, Nat.reduceLT, Nat.reduceLeDiff, Nat.reduceEqDiff, Nat.reduceMod, Nat.reduceDiv, Int.reduceAdd, Int.reduceSub, Int.reduceMul, Int.reduceLT, Int.reduceLE, Int.reduceEq, Int.reduceNeg, Int.reduceToNat, reduceIte, reduceCtorEq, Int.reduceBEq, Int.reduceBNe, Bool.true_beq, Bool.false_beq, Bool.true_bne, Bool.false_bne, Bool.not_true, Bool.not_false]) ((hw.app hf1).src (q := 25) (ag := true) (by simp only [push_cast, Nat.reduceAdd, Nat.reduceSub, Nat.reduceMul, Nat.reduceLT, Nat.reduceLeDiff, Nat.reduceEqDiff, Nat.reduceMod, Nat.reduceDiv, Int.reduceAdd, Int.reduceSub, Int.reduceMul, Int.reduceLT, Int.reduceLE, Int.reduceEq, Int.reduceNeg, Int.reduceToNat, reduceIte, reduceCtorEq, Int.reduceBEq, Int.reduceBNe, Bool.true_beq, Bool.false_beq, Bool.true_bne, Bool.false_bne, Bool.not_true, Bool.not_false])) (flatMap_len (fun x => KeyT.len x) W') (keyC_all W') (by unfold two47; omega) fun v2 N2 hg2 hf2 => ?_
  simp only [push_cast, Nat.reduceAdd, Nat.reduceSub, Nat.reduceMul, Nat.reduceLT, Nat.reduceLeDiff, Nat.reduceEqDiff, Nat.reduceMod, Nat.reduceDiv, Int.reduceAdd, Int.reduceSub, Int.reduceMul, Int.reduceLT, Int.reduceLE, Int.reduceEq, Int.reduceNeg, Int.reduceToNat, reduceIte, reduceCtorEq, Int.reduceBEq, Int.reduceBNe, Bool.true_beq, Bool.false_beq, Bool.true_bne, Bool.false_bne, Bool.not_true, Bool.not_false]
  refine ⟨N2, sub_new hg2.wr.2 hm, ?_⟩
  rw [List.nil_append, Nat.zero_add, ← keyC_app] at hg2
  exact hg2
end Go.Proofs.YtfioapldbajpmaaDoor
