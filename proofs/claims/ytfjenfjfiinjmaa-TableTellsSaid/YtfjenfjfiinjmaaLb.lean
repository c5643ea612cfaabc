/- Lb: TableBack: the walk. -/
import Derived.Test.YtfjenfjfiinjmaaRa
set_option linter.unusedSimpArgs false
set_option linter.unusedVariables false
namespace Go.Proofs.Ytfjenfjfiinjmaa
open Go Go.Ev Go.Proofs
set_option maxRecDepth 100000
set_option maxHeartbeats 4000000
theorem mergeR_ok {l m : List Sl} (hl : Ri l) (hm : Srt m) (h1 : l.length + m.length ≤ 1000) : mergeR l m = (mergeL l m, 0) := by
  have h2 := (joinS_bound l m).1
  simp [mergeR, rightB_iff.2 hl, patchB_iff.2 ⟨(by omega : m.length ≤ 1000), hm⟩, limR, Nat.not_lt.2 (Nat.le_trans h2 h1)]
theorem diffR_ok {l m : List Sl} (hl : Ri l) (hm : Ri m) (h1 : l.length + m.length ≤ 1000) : diffR l m = (diffL l m, 0) := by
  have h2 := (joinS_bound l m).2
  simp [diffR, rightB_iff.2 hl, rightB_iff.2 hm, limR, Nat.not_lt.2 (Nat.le_trans h2 h1)]
theorem tableBack_ok {H : Hp} {one two : List (Int × Int)} {v u : Value} (hm : marksOf H = []) (h1 : PrR H one v) (h2 : PrR H two u) (b1 : rawOk one) (b2 : rawOk two) :
    CallsV Try.prog 4 [v, u] H (Ret0 (.bool true)) := by
  have ra := slotsL_ri one
  have rb := slotsL_ri two
  have la := (slotsL_len false one).1
  have lb := (slotsL_len false two).1
  obtain ⟨a, ea⟩ : ∃ a, a = slotsL false (one.take 20) [] := ⟨_, rfl⟩
  obtain ⟨b, eb⟩ : ∃ b, b = slotsL false (two.take 20) [] := ⟨_, rfl⟩
  rw [← ea] at ra la
  rw [← eb] at rb lb
  have lj := (joinS_bound a b).2
  have hd := diffL_srt ra.srt rb.srt
  refine callsO gD_ok Try.mix Try.pl4 Try.func4 rfl Try.ntmps4 Try.results4 rfl (by first | rfl | assumption) (Nat.le_of_ble_eq_true rfl) (by kernel_rfl) ?_
  simp only [push_cast, Nat.reduceAdd, Nat.reduceSub, Nat.reduceMul, Nat.reduceLT, Nat.reduceLeDiff, Nat.reduceEqDiff, Nat.reduceMod, Nat.reduceDiv, Int.reduceAdd, Int.reduceSub, Int.reduceMul, Int.reduceLT, Int.reduceLE, Int.reduceEq, Int.reduceNeg, Int.reduceToNat, reduceIte, reduceCtorEq]
  refine awake_ok.pure trivial ?_
  simp only [push_cast, Nat.reduceAdd, Nat.reduceSub, Nat.reduceMul, Nat.reduceLT, Nat.reduceLeDiff, Nat.reduceEqDiff, Nat.reduceMod, Nat.reduceDiv, Int.reduceAdd, Int.reduceSub, Int.reduceMul, Int.reduceLT, Int.reduceLE, Int.reduceEq, Int.reduceNeg, Int.reduceToNat, reduceIte, reduceCtorEq]
  refine slots_use hm h1 b1.1 b1.2 ?_
  rw [← ea]
  intro u1 H1 x1 s1
  try dsimp only at s1
  simp only [push_cast, Nat.reduceAdd, Nat.reduceSub, Nat.reduceMul, Nat.reduceLT, Nat.reduceLeDiff, Nat.reduceEqDiff, Nat.reduceMod, Nat.reduceDiv, Int.reduceAdd, Int.reduceSub, Int.reduceMul, Int.reduceLT, Int.reduceLE, Int.reduceEq, Int.reduceNeg, Int.reduceToNat, reduceIte, reduceCtorEq]
  refine slots_use x1.marks (x1.pr h2) b2.1 b2.2 ?_
  rw [← eb]
  intro u2 H2 x2 s2
  try dsimp only at s2
  simp only [push_cast, Nat.reduceAdd, Nat.reduceSub, Nat.reduceMul, Nat.reduceLT, Nat.reduceLeDiff, Nat.reduceEqDiff, Nat.reduceMod, Nat.reduceDiv, Int.reduceAdd, Int.reduceSub, Int.reduceMul, Int.reduceLT, Int.reduceLE, Int.reduceEq, Int.reduceNeg, Int.reduceToNat, reduceIte, reduceCtorEq]
  have s1 := x2.sl s1
  refine diff_use x2.marks s1 s2 ?_
  rw [diffR_ok ra rb (by omega)]
  intro u3 H3 x3 s3
  try dsimp only at s3
  simp only [push_cast, Nat.reduceAdd, Nat.reduceSub, Nat.reduceMul, Nat.reduceLT, Nat.reduceLeDiff, Nat.reduceEqDiff, Nat.reduceMod, Nat.reduceDiv, Int.reduceAdd, Int.reduceSub, Int.reduceMul, Int.reduceLT, Int.reduceLE, Int.reduceEq, Int.reduceNeg, Int.reduceToNat, reduceIte, reduceCtorEq]
  have s1 := x3.sl s1
  have s2 := x3.sl s2
  refine merge_use x3.marks s1 s3 ?_
  rw [mergeR_ok ra hd (by omega), merge_diff ra rb]
  intro u4 H4 x4 s4
  try dsimp only at s4
  simp only [push_cast, Nat.reduceAdd, Nat.reduceSub, Nat.reduceMul, Nat.reduceLT, Nat.reduceLeDiff, Nat.reduceEqDiff, Nat.reduceMod, Nat.reduceDiv, Int.reduceAdd, Int.reduceSub, Int.reduceMul, Int.reduceLT, Int.reduceLE, Int.reduceEq, Int.reduceNeg, Int.reduceToNat, reduceIte, reduceCtorEq]
  have s1 := x4.sl s1
  have s2 := x4.sl s2
  have s3 := x4.sl s3
  refine diff_use x4.marks s1 s1 ?_
  rw [diffR_ok ra ra (by omega), diff_self a ra]
  intro u5 H5 x5 s5
  try dsimp only at s5
  obtain ⟨q5, c5, rfl, _⟩ := id s5
  simp only [push_cast, Nat.reduceAdd, Nat.reduceSub, Nat.reduceMul, Nat.reduceLT, Nat.reduceLeDiff, Nat.reduceEqDiff, Nat.reduceMod, Nat.reduceDiv, Int.reduceAdd, Int.reduceSub, Int.reduceMul, Int.reduceLT, Int.reduceLE, Int.reduceEq, Int.reduceNeg, Int.reduceToNat, reduceIte, reduceCtorEq]
  refine same_use (x5.sl s4) (x5.sl s2) (by omega) (by omega) ?_
  rw [decide_eq_true rfl]
  simp only [push_cast, Nat.reduceAdd, Nat.reduceSub, Nat.reduceMul, Nat.reduceLT, Nat.reduceLeDiff, Nat.reduceEqDiff, Nat.reduceMod, Nat.reduceDiv, Int.reduceAdd, Int.reduceSub, Int.reduceMul, Int.reduceLT, Int.reduceLE, Int.reduceEq, Int.reduceNeg, Int.reduceToNat, reduceIte, reduceCtorEq]
  refine patch_use (x5.sl s3) ?_
  rw [patchB_iff.2 ⟨by omega, hd⟩]
  simp only [push_cast, Nat.reduceAdd, Nat.reduceSub, Nat.reduceMul, Nat.reduceLT, Nat.reduceLeDiff, Nat.reduceEqDiff, Nat.reduceMod, Nat.reduceDiv, Int.reduceAdd, Int.reduceSub, Int.reduceMul, Int.reduceLT, Int.reduceLE, Int.reduceEq, Int.reduceNeg, Int.reduceToNat, reduceIte, reduceCtorEq]
end Go.Proofs.Ytfjenfjfiinjmaa
