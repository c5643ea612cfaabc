/- Dv: DivideTells. -/
import Derived.Test.YtbpnjkedflkabaaDu
set_option linter.unusedSimpArgs false
set_option linter.unusedVariables false
namespace Go.Ev
def numW (x : Nat) (h : x < 18446744073709551616) : W := ⟨x, 0, 0, 0, h, by decide, by decide, by decide⟩
theorem pair_all (x y : W) : (x.cells ++ y.cells).all oneC = true := rfl
end Go.Ev
namespace Go.Proofs.Ytbpnjkedflkabaa
open Go Go.Ev Go.Proofs
set_option maxRecDepth 100000
set_option maxHeartbeats 4000000
theorem refSdivG (args : List Value) (v : Value) (h : sdivG args = some v) : CallsV Try.prog 15 args [] (Ret0 v) := by
  obtain ⟨x, y, rfl, rfl⟩ := two_some (g := fun a b => (sdivW a b).v) (by funext l; rfl) h
  exact refSdiv x y
theorem refSmodG (args : List Value) (v : Value) (h : smodG args = some v) : CallsV Try.prog 17 args [] (Ret0 v) := by
  obtain ⟨x, y, rfl, rfl⟩ := two_some (g := fun a b => (smodW a b).v) (by funext l; rfl) h
  exact refSmod x y
theorem refAddmodG (args : List Value) (v : Value) (h : addmodG args = some v) : CallsV Try.prog 19 args [] (Ret0 v) := by
  obtain ⟨x, y, n, rfl, rfl⟩ := three_some (g := fun a b c => (addmodW a b c).v) (by funext l; rfl) h
  exact refAddmod x y n
theorem refMulmodG (args : List Value) (v : Value) (h : mulmodG args = some v) : CallsV Try.prog 21 args [] (Ret0 v) := by
  obtain ⟨x, y, n, rfl, rfl⟩ := three_some (g := fun a b c => (mulmodW a b c).v) (by funext l; rfl) h
  exact refMulmod x y n
theorem refExpG (args : List Value) (v : Value) (h : expG args = some v) : CallsV Try.prog 23 args [] (Ret0 v) := by
  obtain ⟨x, y, rfl, rfl⟩ := two_some (g := fun a b => (expW a b).v) (by funext l; rfl) h
  exact refExp x y
noncomputable def gV : Gam := (addG 23 expG (addG 21 mulmodG (addG 19 addmodG (addG 17 smodG (addG 15 sdivG gU1)))))
attribute [push_cast] gV
theorem gV_ok : GamOk Try.prog gV := (addG_ok refExpG (addG_ok refMulmodG (addG_ok refAddmodG (addG_ok refSmodG (addG_ok refSdivG gU1_ok)))))
def plV : Plans := fun i => if i = 2 then [(0, 9)] else if i = 4 then [(0, 9)] else Try.pl3 i
attribute [push_cast] plV
theorem divideTells0 (a b n : W) : CallsV Try.prog 3 [a.v, b.v, n.v] [] (Ret0 (.bool true)) := by
  refine callsO gV_ok Try.mix plV Try.func3 rfl Try.ntmps3 Try.results3 rfl (by first | rfl | assumption) (Nat.le_of_ble_eq_true rfl) (by kernel_rfl) ?_
  simp only [push_cast, Nat.reduceAdd, Nat.reduceSub, Nat.reduceMul, Nat.reduceLT, Nat.reduceLeDiff, Nat.reduceEqDiff, Nat.reduceMod, Nat.reduceDiv, Int.reduceAdd, Int.reduceSub, Int.reduceMul, Int.reduceLT, Int.reduceLE, Int.reduceEq, Int.reduceNeg, Int.reduceToNat, reduceIte, reduceCtorEq]
  intro b3 b4 hb4 b5 hb5
  refine regO gV_ok ?_
  obtain ⟨m, hm⟩ : ∃ m, m = b.b % 5 := ⟨_, rfl⟩
  have ml : m < 18446744073709551616 := by omega
  have em : (b.b : Int).tmod 5 = (m : Int) := by rw [hm]; rfl
  simp only [push_cast, Nat.reduceAdd, Nat.reduceSub, Nat.reduceMul, Nat.reduceLT, Nat.reduceLeDiff, Nat.reduceEqDiff, Nat.reduceMod, Nat.reduceDiv, Int.reduceAdd, Int.reduceSub, Int.reduceMul, Int.reduceLT, Int.reduceLE, Int.reduceEq, Int.reduceNeg, Int.reduceToNat, reduceIte, reduceCtorEq, hb4, hb5, em]
  intro bl hbl
  obtain ⟨x, hx⟩ : ∃ x, x = numW b.a b.ha := ⟨_, rfl⟩
  obtain ⟨y, hy⟩ : ∃ x, x = numW m ml := ⟨_, rfl⟩
  obtain ⟨L, hL⟩ : ∃ L, L = a.cells ++ (b.cells ++ (b.cells ++ (n.cells ++ (a.cells ++ (x.cells ++ (a.cells ++ y.cells)))))) := ⟨_, rfl⟩
  have hl : L.length = 32 := by rw [hL]; rfl
  have d0 : List.take 8 L = a.cells ++ b.cells := by rw [hL]; rfl
  have d1 : List.take 8 (List.drop 8 L) = b.cells ++ n.cells := by rw [hL]; rfl
  have d2 : List.take 8 (List.drop 16 L) = a.cells ++ x.cells := by rw [hL]; rfl
  have d3 : List.take 8 (List.drop 24 L) = a.cells ++ y.cells := by rw [hL]; rfl
  refine loopO gV_ok (pl := plV) Try.mix (X := Nat)
    (fun i => ([(3, .pointer (some ⟨b3, 0, none⟩)), (4, .pointer (some ⟨b4, 0, none⟩)), (5, .pointer (some ⟨b5, 0, none⟩)), (7, .bool true), (28, .slice (some ⟨bl, 0, none⟩) 4 4), (29, .int .i64 4), (30, .int .i64 i)],
      [⟨bl, 0, .vec 26 8 4, L⟩, ⟨b5, 0, .cel 24, n.cells⟩, ⟨b4, 0, .cel 24, b.cells⟩, ⟨b3, 0, .cel 24, a.cells⟩]))
    (fun i => i ≤ 4) (fun i => 4 - i) 0 ?_ ?_ (by kernel_rfl) ?_
  · exact Nat.zero_le _
  · rw [hL, hx, hy]
    simp only [push_cast, Nat.reduceAdd, Nat.reduceSub, Nat.reduceMul, Nat.reduceLT, Nat.reduceLeDiff, Nat.reduceEqDiff, Nat.reduceMod, Nat.reduceDiv, Int.reduceAdd, Int.reduceSub, Int.reduceMul, Int.reduceLT, Int.reduceLE, Int.reduceEq, Int.reduceNeg, Int.reduceToNat, reduceIte, reduceCtorEq, hb4, hb5, hbl]
    rfl
  · intro i hi
    dsimp only at hi ⊢
    obtain rfl | rfl | rfl | rfl | rfl : i = 0 ∨ i = 1 ∨ i = 2 ∨ i = 3 ∨ i = 4 := by omega
    · simp only [push_cast, Nat.reduceAdd, Nat.reduceSub, Nat.reduceMul, Nat.reduceLT, Nat.reduceLeDiff, Nat.reduceEqDiff, Nat.reduceMod, Nat.reduceDiv, Int.reduceAdd, Int.reduceSub, Int.reduceMul, Int.reduceLT, Int.reduceLE, Int.reduceEq, Int.reduceNeg, Int.reduceToNat, reduceIte, reduceCtorEq, hb4, hb5, hbl, hl, d0]
      refine regO gV_ok ?_
      generalize hK : (thenK _ _ : Exit → Tm → Hp → Prop) = K0
      simp only [push_cast, Nat.reduceAdd, Nat.reduceSub, Nat.reduceMul, Nat.reduceLT, Nat.reduceLeDiff, Nat.reduceEqDiff, Nat.reduceMod, Nat.reduceDiv, Int.reduceAdd, Int.reduceSub, Int.reduceMul, Int.reduceLT, Int.reduceLE, Int.reduceEq, Int.reduceNeg, Int.reduceToNat, reduceIte, reduceCtorEq, hb4, hb5, hbl, hl, d0, pair_all]
      intro b9 hb9
      rw [← hK]
      clear hK K0
      simp only [push_cast, Nat.reduceAdd, Nat.reduceSub, Nat.reduceMul, Nat.reduceLT, Nat.reduceLeDiff, Nat.reduceEqDiff, Nat.reduceMod, Nat.reduceDiv, Int.reduceAdd, Int.reduceSub, Int.reduceMul, Int.reduceLT, Int.reduceLE, Int.reduceEq, Int.reduceNeg, Int.reduceToNat, reduceIte, reduceCtorEq, hb4, hb5, hbl, hl, hb9]
      exact ⟨1, by omega, by omega, rfl⟩
    · simp only [push_cast, Nat.reduceAdd, Nat.reduceSub, Nat.reduceMul, Nat.reduceLT, Nat.reduceLeDiff, Nat.reduceEqDiff, Nat.reduceMod, Nat.reduceDiv, Int.reduceAdd, Int.reduceSub, Int.reduceMul, Int.reduceLT, Int.reduceLE, Int.reduceEq, Int.reduceNeg, Int.reduceToNat, reduceIte, reduceCtorEq, hb4, hb5, hbl, hl, d1]
      refine regO gV_ok ?_
      generalize hK : (thenK _ _ : Exit → Tm → Hp → Prop) = K0
      simp only [push_cast, Nat.reduceAdd, Nat.reduceSub, Nat.reduceMul, Nat.reduceLT, Nat.reduceLeDiff, Nat.reduceEqDiff, Nat.reduceMod, Nat.reduceDiv, Int.reduceAdd, Int.reduceSub, Int.reduceMul, Int.reduceLT, Int.reduceLE, Int.reduceEq, Int.reduceNeg, Int.reduceToNat, reduceIte, reduceCtorEq, hb4, hb5, hbl, hl, d1, pair_all]
      intro b9 hb9
      rw [← hK]
      clear hK K0
      simp only [push_cast, Nat.reduceAdd, Nat.reduceSub, Nat.reduceMul, Nat.reduceLT, Nat.reduceLeDiff, Nat.reduceEqDiff, Nat.reduceMod, Nat.reduceDiv, Int.reduceAdd, Int.reduceSub, Int.reduceMul, Int.reduceLT, Int.reduceLE, Int.reduceEq, Int.reduceNeg, Int.reduceToNat, reduceIte, reduceCtorEq, hb4, hb5, hbl, hl, hb9]
      exact ⟨2, by omega, by omega, rfl⟩
    · simp only [push_cast, Nat.reduceAdd, Nat.reduceSub, Nat.reduceMul, Nat.reduceLT, Nat.reduceLeDiff, Nat.reduceEqDiff, Nat.reduceMod, Nat.reduceDiv, Int.reduceAdd, Int.reduceSub, Int.reduceMul, Int.reduceLT, Int.reduceLE, Int.reduceEq, Int.reduceNeg, Int.reduceToNat, reduceIte, reduceCtorEq, hb4, hb5, hbl, hl, d2]
      refine regO gV_ok ?_
      generalize hK : (thenK _ _ : Exit → Tm → Hp → Prop) = K0
      simp only [push_cast, Nat.reduceAdd, Nat.reduceSub, Nat.reduceMul, Nat.reduceLT, Nat.reduceLeDiff, Nat.reduceEqDiff, Nat.reduceMod, Nat.reduceDiv, Int.reduceAdd, Int.reduceSub, Int.reduceMul, Int.reduceLT, Int.reduceLE, Int.reduceEq, Int.reduceNeg, Int.reduceToNat, reduceIte, reduceCtorEq, hb4, hb5, hbl, hl, d2, pair_all]
      intro b9 hb9
      rw [← hK]
      clear hK K0
      simp only [push_cast, Nat.reduceAdd, Nat.reduceSub, Nat.reduceMul, Nat.reduceLT, Nat.reduceLeDiff, Nat.reduceEqDiff, Nat.reduceMod, Nat.reduceDiv, Int.reduceAdd, Int.reduceSub, Int.reduceMul, Int.reduceLT, Int.reduceLE, Int.reduceEq, Int.reduceNeg, Int.reduceToNat, reduceIte, reduceCtorEq, hb4, hb5, hbl, hl, hb9]
      exact ⟨3, by omega, by omega, rfl⟩
    · simp only [push_cast, Nat.reduceAdd, Nat.reduceSub, Nat.reduceMul, Nat.reduceLT, Nat.reduceLeDiff, Nat.reduceEqDiff, Nat.reduceMod, Nat.reduceDiv, Int.reduceAdd, Int.reduceSub, Int.reduceMul, Int.reduceLT, Int.reduceLE, Int.reduceEq, Int.reduceNeg, Int.reduceToNat, reduceIte, reduceCtorEq, hb4, hb5, hbl, hl, d3]
      refine regO gV_ok ?_
      generalize hK : (thenK _ _ : Exit → Tm → Hp → Prop) = K0
      simp only [push_cast, Nat.reduceAdd, Nat.reduceSub, Nat.reduceMul, Nat.reduceLT, Nat.reduceLeDiff, Nat.reduceEqDiff, Nat.reduceMod, Nat.reduceDiv, Int.reduceAdd, Int.reduceSub, Int.reduceMul, Int.reduceLT, Int.reduceLE, Int.reduceEq, Int.reduceNeg, Int.reduceToNat, reduceIte, reduceCtorEq, hb4, hb5, hbl, hl, d3, pair_all]
      intro b9 hb9
      rw [← hK]
      clear hK K0
      simp only [push_cast, Nat.reduceAdd, Nat.reduceSub, Nat.reduceMul, Nat.reduceLT, Nat.reduceLeDiff, Nat.reduceEqDiff, Nat.reduceMod, Nat.reduceDiv, Int.reduceAdd, Int.reduceSub, Int.reduceMul, Int.reduceLT, Int.reduceLE, Int.reduceEq, Int.reduceNeg, Int.reduceToNat, reduceIte, reduceCtorEq, hb4, hb5, hbl, hl, hb9]
      exact ⟨4, by omega, by omega, rfl⟩
    · obtain ⟨k, hk⟩ : ∃ k, k = b.a % 300 := ⟨_, rfl⟩
      have kl : k < 18446744073709551616 := by omega
      have ek : (b.a : Int).tmod 300 = (k : Int) := by rw [hk]; rfl
      obtain ⟨z, hz⟩ : ∃ x, x = numW k kl := ⟨_, rfl⟩
      have ez : Value.agg #[.int .u64 (k : Nat), .int .u64 0, .int .u64 0, .int .u64 0] = z.v := by rw [hz]; rfl
      simp only [push_cast, Nat.reduceAdd, Nat.reduceSub, Nat.reduceMul, Nat.reduceLT, Nat.reduceLeDiff, Nat.reduceEqDiff, Nat.reduceMod, Nat.reduceDiv, Int.reduceAdd, Int.reduceSub, Int.reduceMul, Int.reduceLT, Int.reduceLE, Int.reduceEq, Int.reduceNeg, Int.reduceToNat, reduceIte, reduceCtorEq, hb4, hb5, hbl, hl, ek, ez]
theorem divideTells_ok {H : Hp} {a b n : W} (hm : marksOf H = []) : CallsV Try.prog 3 [a.v, b.v, n.v] H (Ret0 (.bool true)) := (divideTells0 a b n).onto hm
end Go.Proofs.Ytbpnjkedflkabaa
