/- Gg: gas.Declared: the sum; Concat; Declared. -/
import Derived.Test.YtfioapldbajpmaaDoorGf
set_option linter.unusedSimpArgs false
set_option linter.unusedVariables false
namespace Go.Proofs.YtfioapldbajpmaaDoor
open Go Go.Ev Go.Proofs
set_option maxRecDepth 100000
set_option maxHeartbeats 4000000
structure SumX where
  n : Nat
  l : List KeyT
  es : Array MapEntry
  clk : Nat
def sumKH (b3 b4 bh r : Nat) (s : SumX) : Hp := [⟨b4, 0, .cel 3, [.int .i64 s.n]⟩, ⟨b3, 0, .cel 83, [.func (.func 54) #[] #[.pointer (some ⟨bh, 0, none⟩)]]⟩, ⟨r, 0, .obj (.map s.es s.clk), []⟩, ⟨bh, 0, .cel 75, [.map (some r)]⟩]
def plSk : Plans := fun i => if i = 3 then [(1, 0), (2, 0), (0, 4), (3, 3), (4, 0), (5, 1)] else Tryd.pl51 i
attribute [push_cast] plSk
theorem sumK_ok (l : List KeyT) (b1 b0 c bh r : Nat) (k1 k2 : Kind) (hk1 : marksOf [⟨b1, 0, k1, [.slice (some ⟨b0, 0, none⟩) l.length c]⟩] = []) (hk2 : marksOf [⟨b0, 0, k2, l.flatMap KeyT.cells⟩] = []) (h10 : b1 ≠ b0) (h1h : b1 ≠ bh) (h1r : b1 ≠ r) (h0h : b0 ≠ bh) (h0r : b0 ≠ r) (hhr : bh ≠ r) (hn : l.length ≤ 1000000) :
    CallsV Tryd.prog 51 [.func (.func 66) #[] #[.pointer (some ⟨b1, 0, none⟩)], .func (.func 54) #[] #[.pointer (some ⟨bh, 0, none⟩)]]
      [⟨b1, 0, k1, [.slice (some ⟨b0, 0, none⟩) l.length c]⟩, ⟨b0, 0, k2, l.flatMap KeyT.cells⟩, ⟨r, 0, .obj (.map #[] 0), []⟩, ⟨bh, 0, .cel 75, [.map (some r)]⟩] (Ret0 (.int .i64 (declS l).1)) := by
  obtain ⟨R, hR⟩ : ∃ R : Nat, R = (declS l).1 := ⟨_, rfl⟩
  rw [← hR]
  have hm12 : marksOf [⟨b1, 0, k1, [.slice (some ⟨b0, 0, none⟩) l.length c]⟩, ⟨b0, 0, k2, l.flatMap KeyT.cells⟩] = [] := by
    rw [show ∀ a b : Ent, [a, b] = [a] ++ [b] from fun _ _ => rfl, marks_append, hk1, hk2]; rfl
  refine callsO (noG_ok _) Tryd.mix plSk Tryd.func51 rfl Tryd.ntmps51 Tryd.results51 rfl ?_ (Nat.le_of_ble_eq_true rfl) (by kernel_rfl) ?_
  · rw [show ∀ (a b : Ent) (L : Hp), a :: b :: L = [a, b] ++ L from fun _ _ _ => rfl, marks_append, hm12]; rfl
  simp only [push_cast, Nat.reduceAdd, Nat.reduceSub, Nat.reduceMul, Nat.reduceLT, Nat.reduceLeDiff, Nat.reduceEqDiff, Nat.reduceMod, Nat.reduceDiv, Int.reduceAdd, Int.reduceSub, Int.reduceMul, Int.reduceLT, Int.reduceLE, Int.reduceEq, Int.reduceNeg, Int.reduceToNat, reduceIte, reduceCtorEq, Int.reduceBEq, Int.reduceBNe, Bool.true_beq, Bool.false_beq, Bool.true_bne, Bool.false_bne, Bool.not_true, Bool.not_false]
  intro b3 hb3 b4 hb4
  refine rangeO (noG_ok _) (pl := plSk) Tryd.mix (Hc := [⟨b1, 0, k1, [.slice (some ⟨b0, 0, none⟩) l.length c]⟩, ⟨b0, 0, k2, l.flatMap KeyT.cells⟩]) (Hm := [])
    (keyIter (ss := l) (b1 := b1) (b0 := b0) (c := c) (k1 := k1) (k2 := k2) (by omega) hm12 (by simp [findE]) (by simp [findE, h10.symm])) rfl
    (X := SumX) (sumKH b3 b4 bh r)
    (fun k s => (s.n, s.l) = declS (l.take k) ∧ MapK s.l s.es) (fun _ _ => False) ⟨0, [], #[], 0⟩
    ?_ ?_ ?_ hm12 (by simp) (fun n => rfl) (fun x y e he => .inl ?_) ?_ (by kernel_rfl) (by kernel_rfl) (fun _ _ h => h.elim) ?_ ?_ (fun _ _ _ _ h => h.elim)
  · exact ⟨rfl, rfl, fun e he => by simp at he⟩
  · simp only [push_cast, Nat.reduceAdd, Nat.reduceSub, Nat.reduceMul, Nat.reduceLT, Nat.reduceLeDiff, Nat.reduceEqDiff, Nat.reduceMod, Nat.reduceDiv, Int.reduceAdd, Int.reduceSub, Int.reduceMul, Int.reduceLT, Int.reduceLE, Int.reduceEq, Int.reduceNeg, Int.reduceToNat, reduceIte, reduceCtorEq, Int.reduceBEq, Int.reduceBNe, Bool.true_beq, Bool.false_beq, Bool.true_bne, Bool.false_bne, Bool.not_true, Bool.not_false, sumKH, hb3, hb4, h10, h1h, h1r, h0h, h0r, hhr, h10.symm, h1h.symm, h1r.symm, h0h.symm, h0r.symm, hhr.symm]
  · rw [show ∀ (x y a b u w : Ent), [x, y, a, b, u, w] = [x, y] ++ ([a, b] ++ [u, w]) from fun _ _ _ _ _ _ => rfl, marks_append, marks_append, hm12]; rfl
  · unfold sumKH at he
    simp only [List.mem_cons, List.not_mem_nil, or_false] at he
    rcases he with rfl | rfl | rfl | rfl <;> trivial
  · intro args ha
    obtain ⟨z, _, rfl⟩ := List.mem_map.1 ha
    rfl
  · rintro lo k s args hk ⟨hs1, hs2⟩
    obtain ⟨x, hj, rfl⟩ := Option.map_eq_some_iff.1 ((List.getElem?_map ..).symm.trans hk)
    have hst := declS_take hj
    rw [← hs1] at hst
    have hle := (declS_le (l.take (k + 1))).1
    have hlk : (l.take (k + 1)).length ≤ 1000000 := by rw [List.length_take]; omega
    obtain ⟨n, q, es, clk⟩ := s
    dsimp only at hs1 hs2 hst
    have hne : bh ≠ r := hhr
    generalize hRK : (roundK _ _ _ k : Exit → Tm → Hp → Prop) = RK
    simp only [push_cast, Nat.reduceAdd, Nat.reduceSub, Nat.reduceMul, Nat.reduceLT, Nat.reduceLeDiff, Nat.reduceEqDiff, Nat.reduceMod, Nat.reduceDiv, Int.reduceAdd, Int.reduceSub, Int.reduceMul, Int.reduceLT, Int.reduceLE, Int.reduceEq, Int.reduceNeg, Int.reduceToNat, reduceIte, reduceCtorEq, Int.reduceBEq, Int.reduceBNe, Bool.true_beq, Bool.false_beq, Bool.true_bne, Bool.false_bne, Bool.not_true, Bool.not_false, sumKH, hb3, hb4]
    intro b5 hb5
    have cst : ((n + (if x ∈ q then 0 else costK x) : Nat), (if x ∈ q then q else q ++ [x])) = stepD (n, q) x := by
      unfold stepD
      dsimp only
      split <;> rfl
    have hn' : n + (if x ∈ q then 0 else costK x) ≤ 2400000000 := by
      have := congrArg Prod.fst (cst.trans hst.symm)
      dsimp only at this
      rw [this]; omega
    have ei : (if x ∈ q then (0 : Int) else (costK x : Int)) = (((if x ∈ q then 0 else costK x) : Nat) : Int) := by split <;> rfl
    obtain ⟨cx, hcx⟩ : ∃ cx : Nat, cx = (if x ∈ q then 0 else costK x) := ⟨_, rfl⟩
    rw [← hcx] at cst hn' ei
    simp only [push_cast, Nat.reduceAdd, Nat.reduceSub, Nat.reduceMul, Nat.reduceLT, Nat.reduceLeDiff, Nat.reduceEqDiff, Nat.reduceMod, Nat.reduceDiv, Int.reduceAdd, Int.reduceSub, Int.reduceMul, Int.reduceLT, Int.reduceLE, Int.reduceEq, Int.reduceNeg, Int.reduceToNat, reduceIte, reduceCtorEq, Int.reduceBEq, Int.reduceBNe, Bool.true_beq, Bool.false_beq, Bool.true_bne, Bool.false_bne, Bool.not_true, Bool.not_false, sumKH, hb3, hb4, hb5]
    constructor
    all_goals
      refine CallsV.frame (A := [_, _, _]) (decl1_ok x q es clk bh r hhr hs2) ?_ ?_
      · rintro v H' ⟨es', clk', rfl, h, rfl⟩ e he
        simp only [List.mem_cons, List.not_mem_nil, or_false] at he
        rcases he with rfl | rfl <;> exact .inl trivial
      · rintro v H' ⟨es', clk', rfl, hes', rfl⟩
        simp only [push_cast, Nat.reduceAdd, Nat.reduceSub, Nat.reduceMul, Nat.reduceLT, Nat.reduceLeDiff, Nat.reduceEqDiff, Nat.reduceMod, Nat.reduceDiv, Int.reduceAdd, Int.reduceSub, Int.reduceMul, Int.reduceLT, Int.reduceLE, Int.reduceEq, Int.reduceNeg, Int.reduceToNat, reduceIte, reduceCtorEq, Int.reduceBEq, Int.reduceBNe, Bool.true_beq, Bool.false_beq, Bool.true_bne, Bool.false_bne, Bool.not_true, Bool.not_false, hb3, hb4, hb5, ei, wrap_i64' (show -9223372036854775808 ≤ (n : Int) + (cx : Int) ∧ (n : Int) + (cx : Int) ≤ 9223372036854775807 by omega)]
        rw [← hRK]
        refine ⟨⟨n + cx, if x ∈ q then q else q ++ [x], es', clk'⟩, ⟨?_, hes'⟩, ?_⟩
        · dsimp only
          exact cst.trans hst.symm
        · unfold sumKH
          simp only [push_cast, Nat.reduceAdd, Nat.reduceSub, Nat.reduceMul, Nat.reduceLT, Nat.reduceLeDiff, Nat.reduceEqDiff, Nat.reduceMod, Nat.reduceDiv, Int.reduceAdd, Int.reduceSub, Int.reduceMul, Int.reduceLT, Int.reduceLE, Int.reduceEq, Int.reduceNeg, Int.reduceToNat, reduceIte, reduceCtorEq, Int.reduceBEq, Int.reduceBNe, Bool.true_beq, Bool.false_beq, Bool.true_bne, Bool.false_bne, Bool.not_true, Bool.not_false, hb3, hb4, hb5, hhr, hhr.symm]
  · rintro D ⟨n, q, es, clk⟩ hfD ⟨hs1, hs2⟩
    rw [List.length_map, List.take_length] at hs1
    dsimp only at hs1
    rw [← hs1] at hR
    dsimp only at hR
    subst hR
    simp only [push_cast, Nat.reduceAdd, Nat.reduceSub, Nat.reduceMul, Nat.reduceLT, Nat.reduceLeDiff, Nat.reduceEqDiff, Nat.reduceMod, Nat.reduceDiv, Int.reduceAdd, Int.reduceSub, Int.reduceMul, Int.reduceLT, Int.reduceLE, Int.reduceEq, Int.reduceNeg, Int.reduceToNat, reduceIte, reduceCtorEq, Int.reduceBEq, Int.reduceBNe, Bool.true_beq, Bool.false_beq, Bool.true_bne, Bool.false_bne, Bool.not_true, Bool.not_false, sumKH, List.nil_append] at hfD
    simp only [push_cast, Nat.reduceAdd, Nat.reduceSub, Nat.reduceMul, Nat.reduceLT, Nat.reduceLeDiff, Nat.reduceEqDiff, Nat.reduceMod, Nat.reduceDiv, Int.reduceAdd, Int.reduceSub, Int.reduceMul, Int.reduceLT, Int.reduceLE, Int.reduceEq, Int.reduceNeg, Int.reduceToNat, reduceIte, reduceCtorEq, Int.reduceBEq, Int.reduceBNe, Bool.true_beq, Bool.false_beq, Bool.true_bne, Bool.false_bne, Bool.not_true, Bool.not_false, sumKH, hb3, hb4, hfD]
end Go.Proofs.YtfioapldbajpmaaDoor
