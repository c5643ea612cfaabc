/- Texts of this claim, merged by program: Wa Wb Ta Tb. -/
import Derived.Test.YtkhpncfgimlleaaGreatZnAd
import Derived.PlainAid
set_option linter.unusedSimpArgs false
set_option linter.unusedVariables false
namespace Go.Ev
structure W where
  a : Nat
  b : Nat
  c : Nat
  d : Nat
  ha : a < 18446744073709551616
  hb : b < 18446744073709551616
  hc : c < 18446744073709551616
  hd : d < 18446744073709551616
def W.cells (w : W) : List Value := [.int .u64 w.a, .int .u64 w.b, .int .u64 w.c, .int .u64 w.d]
def W.v (w : W) : Value := .agg w.cells.toArray
def W.num (w : W) : Nat := w.a + 18446744073709551616 * (w.b + 18446744073709551616 * (w.c + 18446744073709551616 * w.d))
theorem W.eq {x y : W} (ha : x.a = y.a) (hb : x.b = y.b) (hc : x.c = y.c) (hd : x.d = y.d) : x = y := by
  cases x; cases y; simp at ha hb hc hd; subst ha hb hc hd; rfl
theorem W.num_inj {x y : W} (h : x.num = y.num) : x = y := by
  have := x.ha; have := x.hb; have := x.hc; have := x.hd; have := y.ha; have := y.hb; have := y.hc; have := y.hd
  unfold W.num at h
  refine W.eq ?_ ?_ ?_ ?_ <;> omega
theorem W.cells_inj {x y : W} (h : x.cells = y.cells) : x = y := by
  simp only [W.cells, List.cons.injEq, Value.int.injEq, true_and, and_true, Int.ofNat_inj] at h
  exact W.eq h.1 h.2.1 h.2.2.1 h.2.2.2
theorem W.v_inj {x y : W} (h : x.v = y.v) : x = y := by
  simp only [W.v, Value.agg.injEq] at h
  exact W.cells_inj (by simpa using congrArg Array.toList h)
instance : DecidableEq W := fun x y => if h : x.num = y.num then .isTrue (W.num_inj h) else .isFalse fun e => h (by rw [e])
def W.cmp (x y : W) : Int := if x.num < y.num then -1 else if y.num < x.num then 1 else 0
theorem W.cmp_lt {x y : W} (h : x.num < y.num) : -1 = x.cmp y := by unfold W.cmp; rw [if_pos h]
theorem W.cmp_gt {x y : W} (h : y.num < x.num) : 1 = x.cmp y := by unfold W.cmp; rw [if_neg (by omega), if_pos h]
theorem W.cmp_eq {x y : W} (h : x.num = y.num) : 0 = x.cmp y := by unfold W.cmp; rw [if_neg (by omega), if_neg (by omega)]
theorem W.num_d {x y : W} (h : x.d < y.d) : x.num < y.num := by
  have := x.ha; have := x.hb; have := x.hc; unfold W.num; omega
theorem W.num_c {x y : W} (hd : x.d = y.d) (h : x.c < y.c) : x.num < y.num := by
  have := x.ha; have := x.hb; unfold W.num; omega
theorem W.num_b {x y : W} (hd : x.d = y.d) (hc : x.c = y.c) (h : x.b < y.b) : x.num < y.num := by
  have := x.ha; unfold W.num; omega
theorem W.num_a {x y : W} (hd : x.d = y.d) (hc : x.c = y.c) (hb : x.b = y.b) (h : x.a < y.a) : x.num < y.num := by
  unfold W.num; omega
noncomputable def wOf (v : Value) : Option W := @dite (Option W) (∃ x : W, x.v = v) (Classical.propDecidable _) (fun h => some (Classical.choose h)) (fun _ => none)
theorem wOf_v (x : W) : wOf x.v = some x := by
  have h : ∃ y : W, y.v = x.v := ⟨x, rfl⟩
  unfold wOf
  rw [dif_pos h, W.v_inj (Classical.choose_spec h)]
theorem wOf_some {v : Value} {x : W} (h : wOf v = some x) : v = x.v := by
  unfold wOf at h
  by_cases hx : ∃ x : W, x.v = v
  · rw [dif_pos hx] at h; cases h; exact (Classical.choose_spec hx).symm
  · rw [dif_neg hx] at h; cases h
theorem W.v_cells (x : W) : x.v.cells = x.cells.toArray := rfl
theorem W.agg (x : W) : Value.agg x.cells.toArray = x.v := rfl
theorem W.len (x : W) : x.cells.length = 4 := rfl
theorem W.sub (x : W) : subL x.cells 0 4 = some x.cells := rfl
theorem W.sub0 (x : W) : subL x.cells 0 1 = some [.int .u64 x.a] := rfl
theorem W.sub1 (x : W) : subL x.cells 1 1 = some [.int .u64 x.b] := rfl
theorem W.sub2 (x : W) : subL x.cells 2 1 = some [.int .u64 x.c] := rfl
theorem W.sub3 (x : W) : subL x.cells 3 1 = some [.int .u64 x.d] := rfl
theorem W.take (x : W) : List.take 4 x.cells = x.cells := rfl
theorem W.t0 (x : W) : List.take 1 x.cells = [.int .u64 x.a] := rfl
theorem W.t1 (x : W) : List.take 1 (List.drop 1 x.cells) = [.int .u64 x.b] := rfl
theorem W.t2 (x : W) : List.take 1 (List.drop 2 x.cells) = [.int .u64 x.c] := rfl
theorem W.t3 (x : W) : List.take 1 (List.drop 3 x.cells) = [.int .u64 x.d] := rfl
theorem W.all1 (x : W) : x.cells.all oneC = true := rfl
theorem W.takeA (x : W) (l : List Value) : List.take 4 (x.cells ++ l) = x.cells := rfl
theorem W.dropA (x : W) (l : List Value) : List.drop 4 (x.cells ++ l) = l := rfl
theorem W.dropB (x : W) (l : List Value) (n : Nat) : List.drop (n + 4) (x.cells ++ l) = List.drop n l := rfl
theorem W.drop4 (x : W) : List.drop 4 x.cells = [] := rfl
theorem W.take0 (x : W) (l : List Value) (n : Nat) : List.take (n + 4) (x.cells ++ l) = x.cells ++ List.take n l := rfl
def W.zero : W := ⟨0, 0, 0, 0, by decide, by decide, by decide, by decide⟩
attribute [push_cast] wOf_v W.v_cells W.agg W.len W.sub W.sub0 W.sub1 W.sub2 W.sub3 W.take W.t0 W.t1 W.t2 W.t3 W.all1 W.takeA W.dropA W.dropB W.drop4 W.take0 List.append_assoc List.length_append List.toList_toArray
theorem sub1 {K : Value → Hp → Prop} {v : Value} {e : Ent} {H : Hp} (h : K v [e]) : ∃ H', List.Sublist H' (e :: H) ∧ K v H' := ⟨[e], (List.nil_sublist H).cons_cons e, h⟩
theorem sub0 {K : Value → Hp → Prop} {v : Value} {H : Hp} (h : K v []) : ∃ H', List.Sublist H' H ∧ K v H' := ⟨[], List.nil_sublist H, h⟩
def W.ofInt (n : Int) : W := if 0 ≤ n then ⟨n.toNat % 18446744073709551616, 0, 0, 0, Nat.mod_lt _ (by decide), by decide, by decide, by decide⟩
  else ⟨(n + 18446744073709551616).toNat % 18446744073709551616, 18446744073709551615, 18446744073709551615, 18446744073709551615, Nat.mod_lt _ (by decide), by decide, by decide, by decide⟩
def NewS (e s : Nat) (n : Nat) (cells : List Value) : Value → Hp → Prop := fun v N => ∃ b c, v = .slice (some ⟨b, 0, none⟩) n c ∧ n ≤ c ∧ N = [⟨b, 0, .vec e s c, cells⟩]
def nums (l : List Nat) : List Value := l.map fun (x : Nat) => Value.int .u64 (x : Int)
def cmpN (x y : Int) : Int := if x < y then -1 else if y < x then 1 else 0
end Go.Ev
namespace Go.Proofs.YtkhpncfgimlleaaGreat
open Go Go.Ev Go.Proofs
set_option maxRecDepth 100000
set_option maxHeartbeats 4000000
theorem isNaN (x : Int) : CallsV Tryz.prog 108 [.int .u64 x] [] (Ret0 (.bool false)) := by
  refine callsO (noG_ok _) Tryz.mix Tryz.pl108 Tryz.func108 rfl Tryz.ntmps108 Tryz.results108 rfl (by first | rfl | assumption) (Nat.le_of_ble_eq_true rfl) (by kernel_rfl) ?_
  simp only [push_cast, Nat.reduceAdd, Nat.reduceSub, Nat.reduceMul, Nat.reduceLT, Nat.reduceLeDiff, Nat.reduceEqDiff, Nat.reduceMod, Nat.reduceDiv, Int.reduceAdd, Int.reduceSub, Int.reduceMul, Int.reduceLT, Int.reduceLE, Int.reduceEq, Int.reduceNeg, Int.reduceToNat, reduceIte, reduceCtorEq, Int.reduceBEq, Int.reduceBNe, bne_self_eq_false]
theorem compare (x y : Int) : CallsV Tryz.prog 105 [.int .u64 x, .int .u64 y] [] (Ret0 (.int .i64 (cmpN x y))) := by
  refine callsO (noG_ok _) Tryz.mix Tryz.pl105 Tryz.func105 rfl Tryz.ntmps105 Tryz.results105 rfl (by first | rfl | assumption) (Nat.le_of_ble_eq_true rfl) (by kernel_rfl) ?_
  simp only [push_cast, Nat.reduceAdd, Nat.reduceSub, Nat.reduceMul, Nat.reduceLT, Nat.reduceLeDiff, Nat.reduceEqDiff, Nat.reduceMod, Nat.reduceDiv, Int.reduceAdd, Int.reduceSub, Int.reduceMul, Int.reduceLT, Int.reduceLE, Int.reduceEq, Int.reduceNeg, Int.reduceToNat, reduceIte, reduceCtorEq, Int.reduceBEq, Int.reduceBNe]
  refine (isNaN x).pure trivial ?_
  simp only [push_cast, Nat.reduceAdd, Nat.reduceSub, Nat.reduceMul, Nat.reduceLT, Nat.reduceLeDiff, Nat.reduceEqDiff, Nat.reduceMod, Nat.reduceDiv, Int.reduceAdd, Int.reduceSub, Int.reduceMul, Int.reduceLT, Int.reduceLE, Int.reduceEq, Int.reduceNeg, Int.reduceToNat, reduceIte, reduceCtorEq, Int.reduceBEq, Int.reduceBNe]
  refine (isNaN y).pure trivial ?_
  simp only [push_cast, Nat.reduceAdd, Nat.reduceSub, Nat.reduceMul, Nat.reduceLT, Nat.reduceLeDiff, Nat.reduceEqDiff, Nat.reduceMod, Nat.reduceDiv, Int.reduceAdd, Int.reduceSub, Int.reduceMul, Int.reduceLT, Int.reduceLE, Int.reduceEq, Int.reduceNeg, Int.reduceToNat, reduceIte, reduceCtorEq, Int.reduceBEq, Int.reduceBNe, cmpN, Value.int.injEq]
  simp only [sel_ite, decide_eq_true_eq, bne_iff_ne, ne_eq, beq_iff_eq]
  repeat' split
  all_goals omega
def cmpG : List Value → Option Value
  | [.int .u64 x, .int .u64 y] => some (.int .i64 (cmpN x y))
  | _ => none
attribute [push_cast] cmpG
theorem cmpG_ok (args : List Value) (v : Value) (h : cmpG args = some v) : CallsV Tryz.prog 105 args [] (Ret0 v) := by
  unfold cmpG at h
  split at h
  · cases h; exact compare _ _
  · cases h
def gA : Gam := addG 105 cmpG noG
attribute [push_cast] gA
theorem gA_ok : GamOk Tryz.prog gA := addG_ok cmpG_ok (noG_ok _)
theorem clone4 (b o c : Nat) (v0 v1 v2 v3 : Nat) :
    CallsV Tryz.prog 106 [.slice (some ⟨b, o, none⟩) 4 c] [⟨b, o, .ro, nums [v0, v1, v2, v3]⟩] (NewS 27 1 4 (nums [v0, v1, v2, v3])) := by
  refine callsO (noG_ok _) Tryz.mix Tryz.pl106 Tryz.func106 rfl Tryz.ntmps106 Tryz.results106 rfl (by first | rfl | assumption) (Nat.le_of_ble_eq_true rfl) (by kernel_rfl) ?_
  simp only [push_cast, Nat.reduceAdd, Nat.reduceSub, Nat.reduceMul, Nat.reduceLT, Nat.reduceLeDiff, Nat.reduceEqDiff, Nat.reduceMod, Nat.reduceDiv, Int.reduceAdd, Int.reduceSub, Int.reduceMul, Int.reduceLT, Int.reduceLE, Int.reduceEq, Int.reduceNeg, Int.reduceToNat, reduceIte, reduceCtorEq, Int.reduceBEq, Int.reduceBNe, nums]
  intro b1 hb1
  simp only [push_cast, Nat.reduceAdd, Nat.reduceSub, Nat.reduceMul, Nat.reduceLT, Nat.reduceLeDiff, Nat.reduceEqDiff, Nat.reduceMod, Nat.reduceDiv, Int.reduceAdd, Int.reduceSub, Int.reduceMul, Int.reduceLT, Int.reduceLE, Int.reduceEq, Int.reduceNeg, Int.reduceToNat, reduceIte, reduceCtorEq, Int.reduceBEq, Int.reduceBNe, nums, hb1, two47, oneC]
  exact fun b2 c2 hb2 hc2 => sub1 ⟨b2, c2, rfl, hc2, rfl⟩
theorem reverse4 (b : Nat) (c : Nat) (v0 v1 v2 v3 : Nat) :
    CallsV Tryz.prog 107 [.slice (some ⟨b, 0, none⟩) 4 c] [⟨b, 0, .vec 27 1 c, nums [v0, v1, v2, v3]⟩] (fun v N => v = .tuple #[] ∧ N = [⟨b, 0, .vec 27 1 c, nums [v3, v2, v1, v0]⟩]) := by
  refine callsO (noG_ok _) Tryz.mix Tryz.pl107 Tryz.func107 rfl Tryz.ntmps107 Tryz.results107 rfl (by first | rfl | assumption) (Nat.le_of_ble_eq_true rfl) (by kernel_rfl) ?_
  simp only [push_cast, Nat.reduceAdd, Nat.reduceSub, Nat.reduceMul, Nat.reduceLT, Nat.reduceLeDiff, Nat.reduceEqDiff, Nat.reduceMod, Nat.reduceDiv, Int.reduceAdd, Int.reduceSub, Int.reduceMul, Int.reduceLT, Int.reduceLE, Int.reduceEq, Int.reduceNeg, Int.reduceToNat, reduceIte, reduceCtorEq, Int.reduceBEq, Int.reduceBNe, nums]
  refine unrollO (noG_ok _) (pl := Tryz.pl107) Tryz.mix 3 (by kernel_rfl) ?_
  simp only [push_cast, Nat.reduceAdd, Nat.reduceSub, Nat.reduceMul, Nat.reduceLT, Nat.reduceLeDiff, Nat.reduceEqDiff, Nat.reduceMod, Nat.reduceDiv, Int.reduceAdd, Int.reduceSub, Int.reduceMul, Int.reduceLT, Int.reduceLE, Int.reduceEq, Int.reduceNeg, Int.reduceToNat, reduceIte, reduceCtorEq, Int.reduceBEq, Int.reduceBNe]
  exact ⟨_, .refl _, rfl⟩
theorem reversed4 (b o c : Nat) (v0 v1 v2 v3 : Nat) :
    CallsV Tryz.prog 104 [.slice (some ⟨b, o, none⟩) 4 c] [⟨b, o, .ro, nums [v0, v1, v2, v3]⟩] (NewS 27 1 4 (nums [v3, v2, v1, v0])) := by
  refine callsO (noG_ok _) Tryz.mix Tryz.pl104 Tryz.func104 rfl Tryz.ntmps104 Tryz.results104 rfl (by first | rfl | assumption) (Nat.le_of_ble_eq_true rfl) (by kernel_rfl) ?_
  simp only [push_cast, Nat.reduceAdd, Nat.reduceSub, Nat.reduceMul, Nat.reduceLT, Nat.reduceLeDiff, Nat.reduceEqDiff, Nat.reduceMod, Nat.reduceDiv, Int.reduceAdd, Int.reduceSub, Int.reduceMul, Int.reduceLT, Int.reduceLE, Int.reduceEq, Int.reduceNeg, Int.reduceToNat, reduceIte, reduceCtorEq, Int.reduceBEq, Int.reduceBNe]
  refine (clone4 b o c v0 v1 v2 v3).use ?_ ?_
  · simp only [push_cast, Nat.reduceAdd, Nat.reduceSub, Nat.reduceMul, Nat.reduceLT, Nat.reduceLeDiff, Nat.reduceEqDiff, Nat.reduceMod, Nat.reduceDiv, Int.reduceAdd, Int.reduceSub, Int.reduceMul, Int.reduceLT, Int.reduceLE, Int.reduceEq, Int.reduceNeg, Int.reduceToNat, reduceIte, reduceCtorEq, Int.reduceBEq, Int.reduceBNe, nums]
  rintro v N ⟨b1, c1, rfl, hc1, rfl⟩
  simp only [push_cast, Nat.reduceAdd, Nat.reduceSub, Nat.reduceMul, Nat.reduceLT, Nat.reduceLeDiff, Nat.reduceEqDiff, Nat.reduceMod, Nat.reduceDiv, Int.reduceAdd, Int.reduceSub, Int.reduceMul, Int.reduceLT, Int.reduceLE, Int.reduceEq, Int.reduceNeg, Int.reduceToNat, reduceIte, reduceCtorEq, Int.reduceBEq, Int.reduceBNe, nums]
  intro hb1
  refine CallsV.useM (m := ⟨b1, 0, .vec 27 1 c1, nums [v0, v1, v2, v3]⟩) (Hf := []) (reverse4 b1 c1 v0 v1 v2 v3) ?_ rfl trivial ?_
  · simp only [push_cast, Nat.reduceAdd, Nat.reduceSub, Nat.reduceMul, Nat.reduceLT, Nat.reduceLeDiff, Nat.reduceEqDiff, Nat.reduceMod, Nat.reduceDiv, Int.reduceAdd, Int.reduceSub, Int.reduceMul, Int.reduceLT, Int.reduceLE, Int.reduceEq, Int.reduceNeg, Int.reduceToNat, reduceIte, reduceCtorEq, Int.reduceBEq, Int.reduceBNe, nums]
  rintro v N ⟨rfl, rfl⟩
  simp only [push_cast, Nat.reduceAdd, Nat.reduceSub, Nat.reduceMul, Nat.reduceLT, Nat.reduceLeDiff, Nat.reduceEqDiff, Nat.reduceMod, Nat.reduceDiv, Int.reduceAdd, Int.reduceSub, Int.reduceMul, Int.reduceLT, Int.reduceLE, Int.reduceEq, Int.reduceNeg, Int.reduceToNat, reduceIte, reduceCtorEq, Int.reduceBEq, Int.reduceBNe, nums, hb1]
  exact sub1 ⟨b1, c1, rfl, hc1, rfl⟩
def cmp4 (a b c d a' b' c' d' : Nat) : Int := if cmpN a a' ≠ 0 then cmpN a a' else if cmpN b b' ≠ 0 then cmpN b b' else if cmpN c c' ≠ 0 then cmpN c c' else cmpN d d'
theorem compareFunc4 (b c b' c' : Nat) (hbb : b' ≠ b) (v0 v1 v2 v3 w0 w1 w2 w3 : Nat) :
    CallsV Tryz.prog 103 [.slice (some ⟨b, 0, none⟩) 4 c, .slice (some ⟨b', 0, none⟩) 4 c', .func (.func 105) #[] #[]] [⟨b, 0, .ro, nums [v0, v1, v2, v3]⟩, ⟨b', 0, .ro, nums [w0, w1, w2, w3]⟩]
      (Ret0 (.int .i64 (cmp4 v0 v1 v2 v3 w0 w1 w2 w3))) := by
  refine callsO gA_ok Tryz.mix Tryz.pl103 Tryz.func103 rfl Tryz.ntmps103 Tryz.results103 rfl (by first | rfl | assumption) (Nat.le_of_ble_eq_true rfl) (by kernel_rfl) ?_
  simp only [push_cast, Nat.reduceAdd, Nat.reduceSub, Nat.reduceMul, Nat.reduceLT, Nat.reduceLeDiff, Nat.reduceEqDiff, Nat.reduceMod, Nat.reduceDiv, Int.reduceAdd, Int.reduceSub, Int.reduceMul, Int.reduceLT, Int.reduceLE, Int.reduceEq, Int.reduceNeg, Int.reduceToNat, reduceIte, reduceCtorEq, Int.reduceBEq, Int.reduceBNe, nums]
  refine unrollO gA_ok (pl := Tryz.pl103) Tryz.mix 5 (by kernel_rfl) ?_
  simp only [push_cast, Nat.reduceAdd, Nat.reduceSub, Nat.reduceMul, Nat.reduceLT, Nat.reduceLeDiff, Nat.reduceEqDiff, Nat.reduceMod, Nat.reduceDiv, Int.reduceAdd, Int.reduceSub, Int.reduceMul, Int.reduceLT, Int.reduceLE, Int.reduceEq, Int.reduceNeg, Int.reduceToNat, reduceIte, reduceCtorEq, Int.reduceBEq, Int.reduceBNe, hbb, Value.int.injEq]
  simp only [sel_ite, decide_eq_true_eq, bne_iff_ne, ne_eq, beq_iff_eq, cmp4]
  split
  · rfl
  split
  · rfl
  split
  · rfl
  split
  · rfl
  · rename_i h
    omega
theorem cmp4_W (x y : W) : cmp4 x.d x.c x.b x.a y.d y.c y.b y.a = x.cmp y := by
  have := x.ha; have := x.hb; have := x.hc; have := x.hd; have := y.ha; have := y.hb; have := y.hc; have := y.hd
  unfold cmp4 cmpN W.cmp W.num
  repeat' split
  all_goals omega
theorem W.nums (x : W) : x.cells = nums [x.a, x.b, x.c, x.d] := rfl
theorem wordCmp (x y : W) : CallsV Tryz.prog 100 [x.v, y.v] [] (Ret0 (.int .i64 (x.cmp y))) := by
  refine callsO gA_ok Tryz.mix Tryz.pl100 Tryz.func100 rfl Tryz.ntmps100 Tryz.results100 rfl (by first | rfl | assumption) (Nat.le_of_ble_eq_true rfl) (by kernel_rfl) ?_
  simp only [push_cast, Nat.reduceAdd, Nat.reduceSub, Nat.reduceMul, Nat.reduceLT, Nat.reduceLeDiff, Nat.reduceEqDiff, Nat.reduceMod, Nat.reduceDiv, Int.reduceAdd, Int.reduceSub, Int.reduceMul, Int.reduceLT, Int.reduceLE, Int.reduceEq, Int.reduceNeg, Int.reduceToNat, reduceIte, reduceCtorEq, Int.reduceBEq, Int.reduceBNe]
  intro b1 b2 hb2
  refine (reversed4 b1 0 4 x.a x.b x.c x.d).use ?_ ?_
  · simp only [push_cast, Nat.reduceAdd, Nat.reduceSub, Nat.reduceMul, Nat.reduceLT, Nat.reduceLeDiff, Nat.reduceEqDiff, Nat.reduceMod, Nat.reduceDiv, Int.reduceAdd, Int.reduceSub, Int.reduceMul, Int.reduceLT, Int.reduceLE, Int.reduceEq, Int.reduceNeg, Int.reduceToNat, reduceIte, reduceCtorEq, Int.reduceBEq, Int.reduceBNe, hb2, ← W.nums]
  rintro v N ⟨b3, c3, rfl, hc3, rfl⟩
  simp only [push_cast, Nat.reduceAdd, Nat.reduceSub, Nat.reduceMul, Nat.reduceLT, Nat.reduceLeDiff, Nat.reduceEqDiff, Nat.reduceMod, Nat.reduceDiv, Int.reduceAdd, Int.reduceSub, Int.reduceMul, Int.reduceLT, Int.reduceLE, Int.reduceEq, Int.reduceNeg, Int.reduceToNat, reduceIte, reduceCtorEq, Int.reduceBEq, Int.reduceBNe, nums]
  intro hb3
  simp only [push_cast, Nat.reduceAdd, Nat.reduceSub, Nat.reduceMul, Nat.reduceLT, Nat.reduceLeDiff, Nat.reduceEqDiff, Nat.reduceMod, Nat.reduceDiv, Int.reduceAdd, Int.reduceSub, Int.reduceMul, Int.reduceLT, Int.reduceLE, Int.reduceEq, Int.reduceNeg, Int.reduceToNat, reduceIte, reduceCtorEq, Int.reduceBEq, Int.reduceBNe, hb2, hb3]
  refine (reversed4 b2 0 4 y.a y.b y.c y.d).use ?_ ?_
  · simp only [push_cast, Nat.reduceAdd, Nat.reduceSub, Nat.reduceMul, Nat.reduceLT, Nat.reduceLeDiff, Nat.reduceEqDiff, Nat.reduceMod, Nat.reduceDiv, Int.reduceAdd, Int.reduceSub, Int.reduceMul, Int.reduceLT, Int.reduceLE, Int.reduceEq, Int.reduceNeg, Int.reduceToNat, reduceIte, reduceCtorEq, Int.reduceBEq, Int.reduceBNe, hb2, hb3, ← W.nums]
  rintro v N ⟨b4, c4, rfl, hc4, rfl⟩
  simp only [push_cast, Nat.reduceAdd, Nat.reduceSub, Nat.reduceMul, Nat.reduceLT, Nat.reduceLeDiff, Nat.reduceEqDiff, Nat.reduceMod, Nat.reduceDiv, Int.reduceAdd, Int.reduceSub, Int.reduceMul, Int.reduceLT, Int.reduceLE, Int.reduceEq, Int.reduceNeg, Int.reduceToNat, reduceIte, reduceCtorEq, Int.reduceBEq, Int.reduceBNe, nums]
  intro hb4
  simp only [push_cast, Nat.reduceAdd, Nat.reduceSub, Nat.reduceMul, Nat.reduceLT, Nat.reduceLeDiff, Nat.reduceEqDiff, Nat.reduceMod, Nat.reduceDiv, Int.reduceAdd, Int.reduceSub, Int.reduceMul, Int.reduceLT, Int.reduceLE, Int.reduceEq, Int.reduceNeg, Int.reduceToNat, reduceIte, reduceCtorEq, Int.reduceBEq, Int.reduceBNe, hb2, hb3, hb4]
  refine TakeV.mk ?_ (compareFunc4 b3 c3 b4 c4 hb4.1 x.d x.c x.b x.a y.d y.c y.b y.a) ?_
  · simp only [push_cast, Nat.reduceAdd, Nat.reduceSub, Nat.reduceMul, Nat.reduceLT, Nat.reduceLeDiff, Nat.reduceEqDiff, Nat.reduceMod, Nat.reduceDiv, Int.reduceAdd, Int.reduceSub, Int.reduceMul, Int.reduceLT, Int.reduceLE, Int.reduceEq, Int.reduceNeg, Int.reduceToNat, reduceIte, reduceCtorEq, Int.reduceBEq, Int.reduceBNe, nums, hb2, hb3, hb4]
  · simp only [push_cast, Nat.reduceAdd, Nat.reduceSub, Nat.reduceMul, Nat.reduceLT, Nat.reduceLeDiff, Nat.reduceEqDiff, Nat.reduceMod, Nat.reduceDiv, Int.reduceAdd, Int.reduceSub, Int.reduceMul, Int.reduceLT, Int.reduceLE, Int.reduceEq, Int.reduceNeg, Int.reduceToNat, reduceIte, reduceCtorEq, Int.reduceBEq, Int.reduceBNe, cmp4_W]
end Go.Proofs.YtkhpncfgimlleaaGreat
set_option linter.unusedSimpArgs false
set_option linter.unusedVariables false
namespace Go.Proofs.YtkhpncfgimlleaaGreat
open Go Go.Ev Go.Proofs
set_option maxRecDepth 100000
set_option maxHeartbeats 4000000
theorem refCmp (x y : W) : CallsV Tryz.prog 96 [x.v, y.v] [] (Ret0 (.int .i64 (x.cmp y))) := by
  refine callsO (noG_ok _) Tryz.mix Tryz.pl96 Tryz.func96 rfl Tryz.ntmps96 Tryz.results96 rfl (by first | rfl | assumption) (Nat.le_of_ble_eq_true rfl) (by kernel_rfl) ?_
  simp only [push_cast, Nat.reduceAdd, Nat.reduceSub, Nat.reduceMul, Nat.reduceLT, Nat.reduceLeDiff, Nat.reduceEqDiff, Nat.reduceMod, Nat.reduceDiv, Int.reduceAdd, Int.reduceSub, Int.reduceMul, Int.reduceLT, Int.reduceLE, Int.reduceEq, Int.reduceNeg, Int.reduceToNat, reduceIte, reduceCtorEq, Int.reduceBEq, Int.reduceBNe]
  intro b1 b2 hb2
  refine unrollO (noG_ok _) (pl := Tryz.pl96) Tryz.mix 5 (by kernel_rfl) ?_
  simp only [push_cast, Nat.reduceAdd, Nat.reduceSub, Nat.reduceMul, Nat.reduceLT, Nat.reduceLeDiff, Nat.reduceEqDiff, Nat.reduceMod, Nat.reduceDiv, Int.reduceAdd, Int.reduceSub, Int.reduceMul, Int.reduceLT, Int.reduceLE, Int.reduceEq, Int.reduceNeg, Int.reduceToNat, reduceIte, reduceCtorEq, Int.reduceBEq, Int.reduceBNe, hb2, Value.int.injEq]
  simp only [sel_ite, decide_eq_true_eq, bne_iff_ne, ne_eq, beq_iff_eq]
  split
  · exact W.cmp_lt (W.num_d (by assumption))
  split
  · exact W.cmp_gt (W.num_d (by assumption))
  have hd : x.d = y.d := by omega
  split
  · exact W.cmp_lt (W.num_c hd (by assumption))
  split
  · exact W.cmp_gt (W.num_c hd.symm (by assumption))
  have hc : x.c = y.c := by omega
  split
  · exact W.cmp_lt (W.num_b hd hc (by assumption))
  split
  · exact W.cmp_gt (W.num_b hd.symm hc.symm (by assumption))
  have hb : x.b = y.b := by omega
  split
  · exact W.cmp_lt (W.num_a hd hc hb (by assumption))
  split
  · exact W.cmp_gt (W.num_a hd.symm hc.symm hb.symm (by assumption))
  have ha : x.a = y.a := by omega
  exact W.cmp_eq (by rw [W.eq ha hb hc hd])
theorem refOf (n : Int) (hn : -9223372036854775808 ≤ n ∧ n ≤ 9223372036854775807) : CallsV Tryz.prog 32 [.int .i64 n] [] (Ret0 (W.ofInt n).v) := by
  refine callsO (noG_ok _) Tryz.mix Tryz.pl32 Tryz.func32 rfl Tryz.ntmps32 Tryz.results32 rfl (by first | rfl | assumption) (Nat.le_of_ble_eq_true rfl) (by kernel_rfl) ?_
  simp only [push_cast, Nat.reduceAdd, Nat.reduceSub, Nat.reduceMul, Nat.reduceLT, Nat.reduceLeDiff, Nat.reduceEqDiff, Nat.reduceMod, Nat.reduceDiv, Int.reduceAdd, Int.reduceSub, Int.reduceMul, Int.reduceLT, Int.reduceLE, Int.reduceEq, Int.reduceNeg, Int.reduceToNat, reduceIte, reduceCtorEq, Int.reduceBEq, Int.reduceBNe]
  intro b1 b2 hb2
  rcases Int.lt_or_le n 0 with h | h
  · simp only [push_cast, Nat.reduceAdd, Nat.reduceSub, Nat.reduceMul, Nat.reduceLT, Nat.reduceLeDiff, Nat.reduceEqDiff, Nat.reduceMod, Nat.reduceDiv, Int.reduceAdd, Int.reduceSub, Int.reduceMul, Int.reduceLT, Int.reduceLE, Int.reduceEq, Int.reduceNeg, Int.reduceToNat, reduceIte, reduceCtorEq, Int.reduceBEq, Int.reduceBNe, h, hb2]
    refine unrollO (noG_ok _) (pl := Tryz.pl32) Tryz.mix 4 (by kernel_rfl) ?_
    simp only [push_cast, Nat.reduceAdd, Nat.reduceSub, Nat.reduceMul, Nat.reduceLT, Nat.reduceLeDiff, Nat.reduceEqDiff, Nat.reduceMod, Nat.reduceDiv, Int.reduceAdd, Int.reduceSub, Int.reduceMul, Int.reduceLT, Int.reduceLE, Int.reduceEq, Int.reduceNeg, Int.reduceToNat, reduceIte, reduceCtorEq, Int.reduceBEq, Int.reduceBNe, hb2]
    rw [W.ofInt, if_neg (by omega), PlainAid.u64_neg h (by omega)]
    simp only [W.v, W.cells, Value.agg.injEq]
    congr 2
    simp only [Value.int.injEq, true_and]
    omega
  · simp only [push_cast, Nat.reduceAdd, Nat.reduceSub, Nat.reduceMul, Nat.reduceLT, Nat.reduceLeDiff, Nat.reduceEqDiff, Nat.reduceMod, Nat.reduceDiv, Int.reduceAdd, Int.reduceSub, Int.reduceMul, Int.reduceLT, Int.reduceLE, Int.reduceEq, Int.reduceNeg, Int.reduceToNat, reduceIte, reduceCtorEq, Int.reduceBEq, Int.reduceBNe, Int.not_lt.2 h, hb2]
    rw [W.ofInt, if_pos (by omega), PlainAid.u64_nonneg (by omega) (by omega)]
    simp only [W.v, W.cells, Value.agg.injEq]
    congr 2
    simp only [Value.int.injEq, true_and]
    omega
end Go.Proofs.YtkhpncfgimlleaaGreat
set_option linter.unusedSimpArgs false
set_option linter.unusedVariables false
namespace Go.Ev
structure Sl where
  key : W
  val : W
def Sl.cells (x : Sl) : List Value := x.key.cells ++ x.val.cells
def Sl.v (x : Sl) : Value := .agg x.cells.toArray
theorem Sl.len (x : Sl) : x.cells.length = 8 := rfl
theorem Sl.take8 (x : Sl) : List.take 8 x.cells = x.cells := rfl
theorem Sl.key0 (x : Sl) : List.take 4 x.cells = x.key.cells := rfl
theorem Sl.val4 (x : Sl) : List.take 4 (List.drop 4 x.cells) = x.val.cells := rfl
theorem Sl.all1 (x : Sl) : x.cells.all oneC = true := rfl
theorem Sl.eta (x : Sl) : x.key.cells ++ x.val.cells = x.cells := rfl
theorem Sl.drop8 (x : Sl) (l : List Value) : List.drop 8 (x.cells ++ l) = l := rfl
theorem Sl.drop8' (x : Sl) : List.drop 8 x.cells = [] := rfl
theorem Sl.agg (x : Sl) : Value.agg x.cells.toArray = x.v := rfl
theorem Sl.v_cells (x : Sl) : x.v.cells = x.cells.toArray := rfl
theorem Sl.pair (k v : W) : k.cells ++ v.cells = (Sl.mk k v).cells := rfl
instance : DecidableEq Sl := fun x y => if h : x.key = y.key ∧ x.val = y.val then .isTrue (by cases x; cases y; cases h.1; cases h.2; rfl) else .isFalse fun e => h (by rw [e]; exact ⟨rfl, rfl⟩)
def slC (l : List Sl) : List Value := l.flatMap Sl.cells
theorem slC_len (l : List Sl) : (slC l).length = l.length * 8 := by
  unfold slC
  induction l with
  | nil => rfl
  | cons x r ih => simp only [List.flatMap_cons, List.length_append, ih, Sl.len, List.length_cons]; omega
theorem slC_drop (l : List Sl) (i : Nat) : (slC l).drop (i * 8) = slC (l.drop i) := by
  induction l generalizing i with
  | nil => simp [slC]
  | cons x r ih =>
    cases i with
    | zero => simp
    | succ i =>
      have h8 : x.cells.length = 8 := rfl
      rw [show slC (x :: r) = x.cells ++ slC r from rfl, show (i + 1) * 8 = x.cells.length + i * 8 by rw [h8]; omega, List.drop_append, List.drop_succ_cons]
      simp only [Nat.add_sub_cancel_left, ih]
      rw [List.drop_eq_nil_of_le (by omega), List.nil_append]
theorem slC_app (l m : List Sl) : slC (l ++ m) = slC l ++ slC m := by simp [slC]
theorem slC_one (x : Sl) : slC [x] = x.cells := by simp [slC]
theorem slC_at {l : List Sl} {i : Nat} {x : Sl} (h : l[i]? = some x) : i * 8 + 8 ≤ (slC l).length ∧ i * 8 + 4 ≤ (slC l).length ∧ i * 8 + 4 + 4 ≤ (slC l).length ∧
    List.take 8 (List.drop (i * 8) (slC l)) = x.cells ∧ List.take 4 (List.drop (i * 8) (slC l)) = x.key.cells ∧ List.take 4 (List.drop (i * 8 + 4) (slC l)) = x.val.cells := by
  have hi := (List.getElem?_eq_some_iff.1 h).1
  have hd : l.drop i = x :: l.drop (i + 1) := by
    rw [List.drop_eq_getElem_cons hi, (List.getElem?_eq_some_iff.1 h).2]
  rw [slC_len, ← List.drop_drop, slC_drop, hd]
  refine ⟨by omega, by omega, by omega, ?_, ?_, ?_⟩ <;> rfl
def SlH (l : List Sl) (v : Value) (Hf : Hp) : Prop := ∃ p c, v = .slice p l.length c ∧ ((l = [] ∧ Hf = []) ∨ ∃ b o, p = some ⟨b, o, none⟩ ∧ Hf = [⟨b, o, .ro, slC l⟩])
def SlR (H : Hp) (l : List Sl) (v : Value) : Prop := ∃ p c, v = .slice p l.length c ∧ (l = [] ∨ ∃ b o, p = some ⟨b, o, none⟩ ∧ cellsAt H b o (l.length * 8) = some (slC l))
theorem SlR.h {H : Hp} {l : List Sl} {v : Value} (h : SlR H l v) : ∃ Hf, SlH l v Hf ∧ derE H Hf := by
  obtain ⟨p, c, rfl, rfl | ⟨b, o, rfl, hb⟩⟩ := h
  · exact ⟨[], ⟨p, c, rfl, .inl ⟨rfl, rfl⟩⟩, trivial⟩
  · refine ⟨[⟨b, o, .ro, slC l⟩], ⟨_, c, rfl, .inr ⟨b, o, rfl, rfl⟩⟩, ⟨rfl, ?_⟩, trivial⟩
    simpa only [slC_len] using hb
def OutS (e : Nat) (l : List Sl) (v : Value) (N : Hp) : Prop := (l = [] ∧ v = .slice none 0 0 ∧ N = []) ∨ ∃ b c, l ≠ [] ∧ v = .slice (some ⟨b, 0, none⟩) l.length c ∧ l.length ≤ c ∧ N = [⟨b, 0, .vec e 8 c, slC l⟩]
theorem subH_self : ∀ (H : Hp), subH H H
  | [] => trivial
  | e :: r => ⟨by simp [findE], by simpa [remE] using subH_self r⟩
theorem fresh_find {b : Nat} : ∀ {H : Hp}, fresh b H → ∀ {c : Nat} {e : Ent}, findE H c = some e → ¬ b = c ∧ ¬ c = b
  | [], _, _, _, h => by simp [findE] at h
  | x :: r, hf, c, e, h => by
    simp only [findE] at h
    by_cases hc : c = x.blk
    · subst hc; exact ⟨hf.1, hf.2.1⟩
    · rw [if_neg hc] at h; exact fresh_find hf.2.2 h
theorem findE_fresh {b : Nat} : ∀ {H : Hp}, fresh b H → ∀ e ∈ H, ¬ e.blk = b
  | _ :: _, hf, e, he => by
    rcases List.mem_cons.1 he with rfl | he
    · exact hf.2.1
    · exact findE_fresh hf.2.2 e he
theorem subH_skip {e : Ent} : ∀ {L H : Hp}, fresh e.blk H → (subH (e :: L) H) = (subH L H)
  | _, [], _ => rfl
  | L, f :: r, h => by
    simp only [subH, findE, remE]
    rw [if_neg h.2.1, if_neg h.2.1, subH_skip h.2.2]
attribute [push_cast] slC_one Sl.eta Sl.all1 Sl.drop8 Sl.drop8' Sl.len Sl.take8 Sl.key0 Sl.val4 Sl.agg Sl.v_cells subH_self subH_skip
end Go.Ev
namespace Go.Proofs.YtkhpncfgimlleaaGreat
open Go Go.Ev Go.Proofs
set_option maxRecDepth 100000
set_option maxHeartbeats 4000000
theorem of_ok {Hf : Hp} {l : List Sl} {v : Value} (hv : SlH l v Hf) (hn : l.length ≤ 4000) :
    CallsV Tryz.prog 94 [v] Hf (fun u N => ∃ w, u = .agg #[w, .func (.func 100) #[] #[]] ∧ OutS 132 l w N) := by
  obtain ⟨p, c, rfl, ⟨rfl, rfl⟩ | ⟨b, o, rfl, rfl⟩⟩ := hv
  · refine callsO (noG_ok _) Tryz.mix Tryz.pl94 Tryz.func94 rfl Tryz.ntmps94 Tryz.results94 rfl (by first | rfl | assumption) (Nat.le_of_ble_eq_true rfl) (by kernel_rfl) ?_
    simp only [push_cast, Nat.reduceAdd, Nat.reduceSub, Nat.reduceMul, Nat.reduceLT, Nat.reduceLeDiff, Nat.reduceEqDiff, Nat.reduceMod, Nat.reduceDiv, Int.reduceAdd, Int.reduceSub, Int.reduceMul, Int.reduceLT, Int.reduceLE, Int.reduceEq, Int.reduceNeg, Int.reduceToNat, reduceIte, reduceCtorEq, Int.reduceBEq, Int.reduceBNe]
    intro b2 b3 hb3
    refine unrollO (noG_ok _) (pl := Tryz.pl94) Tryz.mix 1 (by kernel_rfl) ?_
    simp only [push_cast, Nat.reduceAdd, Nat.reduceSub, Nat.reduceMul, Nat.reduceLT, Nat.reduceLeDiff, Nat.reduceEqDiff, Nat.reduceMod, Nat.reduceDiv, Int.reduceAdd, Int.reduceSub, Int.reduceMul, Int.reduceLT, Int.reduceLE, Int.reduceEq, Int.reduceNeg, Int.reduceToNat, reduceIte, reduceCtorEq, Int.reduceBEq, Int.reduceBNe, hb3]
    exact ⟨[], List.nil_sublist _, _, rfl, .inl ⟨rfl, rfl, rfl⟩⟩
  refine callsO (noG_ok _) Tryz.mix Tryz.pl94 Tryz.func94 rfl Tryz.ntmps94 Tryz.results94 rfl (by first | rfl | assumption) (Nat.le_of_ble_eq_true rfl) (by kernel_rfl) ?_
  simp only [push_cast, Nat.reduceAdd, Nat.reduceSub, Nat.reduceMul, Nat.reduceLT, Nat.reduceLeDiff, Nat.reduceEqDiff, Nat.reduceMod, Nat.reduceDiv, Int.reduceAdd, Int.reduceSub, Int.reduceMul, Int.reduceLT, Int.reduceLE, Int.reduceEq, Int.reduceNeg, Int.reduceToNat, reduceIte, reduceCtorEq, Int.reduceBEq, Int.reduceBNe]
  intro b2 hb2 b3 hb3
  refine loopO (noG_ok _) (pl := Tryz.pl94) Tryz.mix (X := Nat × Value × Hp)
    (fun x => ([(2, .pointer (some ⟨b2, 0, none⟩)), (3, .pointer (some ⟨b3, 0, none⟩)), (7, .slice (some ⟨b, o, none⟩) l.length c), (8, .int .i64 l.length), (9, .int .i64 x.1)],
      ⟨b2, 0, .cel 123, [.slice none 0 0, .nilFunc]⟩ :: ⟨b3, 0, .cel 123, [x.2.1, .func (.func 100) #[] #[]]⟩ :: ⟨b, o, .ro, slC l⟩ :: x.2.2))
    (fun x => x.1 ≤ l.length ∧ OutS 132 (l.take x.1) x.2.1 x.2.2 ∧ freshN x.2.2 [⟨b2, 0, .ro, []⟩, ⟨b3, 0, .ro, []⟩, ⟨b, 0, .ro, []⟩]) (fun x => l.length - x.1) (0, .slice none 0 0, []) ?_ ?_ (by kernel_rfl) ?_
  · exact ⟨Nat.zero_le _, .inl ⟨rfl, rfl, rfl⟩, trivial⟩
  · simp only [push_cast, Nat.reduceAdd, Nat.reduceSub, Nat.reduceMul, Nat.reduceLT, Nat.reduceLeDiff, Nat.reduceEqDiff, Nat.reduceMod, Nat.reduceDiv, Int.reduceAdd, Int.reduceSub, Int.reduceMul, Int.reduceLT, Int.reduceLE, Int.reduceEq, Int.reduceNeg, Int.reduceToNat, reduceIte, reduceCtorEq, Int.reduceBEq, Int.reduceBNe, *]
  · rintro ⟨k, w, N⟩ ⟨hk, ho, hf⟩
    dsimp only at hk ho hf ⊢
    rcases Nat.lt_or_ge k l.length with hlt | hge
    · obtain ⟨x, hx⟩ : ∃ x, l[k]? = some x := ⟨l[k], List.getElem?_eq_getElem hlt⟩
      have htk : l.take (k + 1) = l.take k ++ [x] := by rw [List.take_add_one, hx]; rfl
      have hat := slC_at hx
      have hkl : (l.take k).length = k := by simp; omega
      rcases ho with ⟨h0, rfl, rfl⟩ | ⟨bo, co, h0, rfl, hco, rfl⟩
      · simp only [push_cast, Nat.reduceAdd, Nat.reduceSub, Nat.reduceMul, Nat.reduceLT, Nat.reduceLeDiff, Nat.reduceEqDiff, Nat.reduceMod, Nat.reduceDiv, Int.reduceAdd, Int.reduceSub, Int.reduceMul, Int.reduceLT, Int.reduceLE, Int.reduceEq, Int.reduceNeg, Int.reduceToNat, reduceIte, reduceCtorEq, Int.reduceBEq, Int.reduceBNe, hlt, hat, hb2, hb3]
        intro b4 hb4
        simp only [push_cast, Nat.reduceAdd, Nat.reduceSub, Nat.reduceMul, Nat.reduceLT, Nat.reduceLeDiff, Nat.reduceEqDiff, Nat.reduceMod, Nat.reduceDiv, Int.reduceAdd, Int.reduceSub, Int.reduceMul, Int.reduceLT, Int.reduceLE, Int.reduceEq, Int.reduceNeg, Int.reduceToNat, reduceIte, reduceCtorEq, Int.reduceBEq, Int.reduceBNe, hlt, hat, hb2, hb3, hb4]
        intro b5 hb5
        refine ⟨by unfold two47; omega, fun b6 c6 hb6 hc6 => ?_⟩
        simp only [push_cast, Nat.reduceAdd, Nat.reduceSub, Nat.reduceMul, Nat.reduceLT, Nat.reduceLeDiff, Nat.reduceEqDiff, Nat.reduceMod, Nat.reduceDiv, Int.reduceAdd, Int.reduceSub, Int.reduceMul, Int.reduceLT, Int.reduceLE, Int.reduceEq, Int.reduceNeg, Int.reduceToNat, reduceIte, reduceCtorEq, Int.reduceBEq, Int.reduceBNe, hb2, hb3, hb4, hb5, hb6, wrap_i64' (show -9223372036854775808 ≤ (k : Int) + 1 ∧ (k : Int) + 1 ≤ 9223372036854775807 by omega)]
        have h1 : (l.take (k + 1)) = [x] := by rw [htk, h0]; rfl
        refine ⟨(k + 1, .slice (some ⟨b6, 0, none⟩) 1 c6, [⟨b6, 0, .vec 132 8 c6, slC [x]⟩]), ⟨hlt, ?_, ?_⟩, ?_, ?_⟩
        · rw [h1]; exact .inr ⟨b6, c6, by simp, rfl, hc6, rfl⟩
        · simp only [push_cast, Nat.reduceAdd, Nat.reduceSub, Nat.reduceMul, Nat.reduceLT, Nat.reduceLeDiff, Nat.reduceEqDiff, Nat.reduceMod, Nat.reduceDiv, Int.reduceAdd, Int.reduceSub, Int.reduceMul, Int.reduceLT, Int.reduceLE, Int.reduceEq, Int.reduceNeg, Int.reduceToNat, reduceIte, reduceCtorEq, Int.reduceBEq, Int.reduceBNe, hb6]
        · show l.length - (k + 1) < l.length - k
          omega
        · simp only [push_cast, Nat.reduceAdd, Nat.reduceSub, Nat.reduceMul, Nat.reduceLT, Nat.reduceLeDiff, Nat.reduceEqDiff, Nat.reduceMod, Nat.reduceDiv, Int.reduceAdd, Int.reduceSub, Int.reduceMul, Int.reduceLT, Int.reduceLE, Int.reduceEq, Int.reduceNeg, Int.reduceToNat, reduceIte, reduceCtorEq, Int.reduceBEq, Int.reduceBNe, hb6, hb5, hb4, hb3, hb2]
      · simp only [push_cast, Nat.reduceAdd, Nat.reduceSub, Nat.reduceMul, Nat.reduceLT, Nat.reduceLeDiff, Nat.reduceEqDiff, Nat.reduceMod, Nat.reduceDiv, Int.reduceAdd, Int.reduceSub, Int.reduceMul, Int.reduceLT, Int.reduceLE, Int.reduceEq, Int.reduceNeg, Int.reduceToNat, reduceIte, reduceCtorEq, Int.reduceBEq, Int.reduceBNe] at hf
        simp only [push_cast, Nat.reduceAdd, Nat.reduceSub, Nat.reduceMul, Nat.reduceLT, Nat.reduceLeDiff, Nat.reduceEqDiff, Nat.reduceMod, Nat.reduceDiv, Int.reduceAdd, Int.reduceSub, Int.reduceMul, Int.reduceLT, Int.reduceLE, Int.reduceEq, Int.reduceNeg, Int.reduceToNat, reduceIte, reduceCtorEq, Int.reduceBEq, Int.reduceBNe, hlt, hat, hb2, hb3, hf]
        intro b4 hb4
        simp only [push_cast, Nat.reduceAdd, Nat.reduceSub, Nat.reduceMul, Nat.reduceLT, Nat.reduceLeDiff, Nat.reduceEqDiff, Nat.reduceMod, Nat.reduceDiv, Int.reduceAdd, Int.reduceSub, Int.reduceMul, Int.reduceLT, Int.reduceLE, Int.reduceEq, Int.reduceNeg, Int.reduceToNat, reduceIte, reduceCtorEq, Int.reduceBEq, Int.reduceBNe, hlt, hat, hb2, hb3, hb4, hf]
        intro b5 hb5
        simp only [push_cast, Nat.reduceAdd, Nat.reduceSub, Nat.reduceMul, Nat.reduceLT, Nat.reduceLeDiff, Nat.reduceEqDiff, Nat.reduceMod, Nat.reduceDiv, Int.reduceAdd, Int.reduceSub, Int.reduceMul, Int.reduceLT, Int.reduceLE, Int.reduceEq, Int.reduceNeg, Int.reduceToNat, reduceIte, reduceCtorEq, Int.reduceBEq, Int.reduceBNe, hb2, hb3, hb4, hb5, hf, hkl, slC_len]
        refine ⟨by unfold two47; omega, fun b6 c6 hb6 hc6 => ?_⟩
        simp only [push_cast, Nat.reduceAdd, Nat.reduceSub, Nat.reduceMul, Nat.reduceLT, Nat.reduceLeDiff, Nat.reduceEqDiff, Nat.reduceMod, Nat.reduceDiv, Int.reduceAdd, Int.reduceSub, Int.reduceMul, Int.reduceLT, Int.reduceLE, Int.reduceEq, Int.reduceNeg, Int.reduceToNat, reduceIte, reduceCtorEq, Int.reduceBEq, Int.reduceBNe, hb2, hb3, hb4, hb5, hb6, hf, wrap_i64' (show -9223372036854775808 ≤ (k : Int) + 1 ∧ (k : Int) + 1 ≤ 9223372036854775807 by omega)]
        refine ⟨(k + 1, .slice (some ⟨b6, 0, none⟩) (k + 1) c6, [⟨b6, 0, .vec 132 8 c6, slC (l.take (k + 1))⟩]), ⟨hlt, ?_, ?_⟩, ?_, ?_⟩
        · refine .inr ⟨b6, c6, by rw [htk]; simp, by simp; omega, by simp; omega, rfl⟩
        · simp only [push_cast, Nat.reduceAdd, Nat.reduceSub, Nat.reduceMul, Nat.reduceLT, Nat.reduceLeDiff, Nat.reduceEqDiff, Nat.reduceMod, Nat.reduceDiv, Int.reduceAdd, Int.reduceSub, Int.reduceMul, Int.reduceLT, Int.reduceLE, Int.reduceEq, Int.reduceNeg, Int.reduceToNat, reduceIte, reduceCtorEq, Int.reduceBEq, Int.reduceBNe, hb6]
        · show l.length - (k + 1) < l.length - k
          omega
        · simp only [push_cast, Nat.reduceAdd, Nat.reduceSub, Nat.reduceMul, Nat.reduceLT, Nat.reduceLeDiff, Nat.reduceEqDiff, Nat.reduceMod, Nat.reduceDiv, Int.reduceAdd, Int.reduceSub, Int.reduceMul, Int.reduceLT, Int.reduceLE, Int.reduceEq, Int.reduceNeg, Int.reduceToNat, reduceIte, reduceCtorEq, Int.reduceBEq, Int.reduceBNe, htk, slC_app, hb6, hb5, hb4, hb3, hb2]
    · obtain rfl : k = l.length := by omega
      simp only [push_cast, Nat.reduceAdd, Nat.reduceSub, Nat.reduceMul, Nat.reduceLT, Nat.reduceLeDiff, Nat.reduceEqDiff, Nat.reduceMod, Nat.reduceDiv, Int.reduceAdd, Int.reduceSub, Int.reduceMul, Int.reduceLT, Int.reduceLE, Int.reduceEq, Int.reduceNeg, Int.reduceToNat, reduceIte, reduceCtorEq, Int.reduceBEq, Int.reduceBNe, hb2, hb3, Nat.lt_irrefl]
      rw [List.take_length] at ho
      rcases ho with ⟨h0, rfl, rfl⟩ | ⟨bo, co, h0, rfl, hco, rfl⟩
      · simp only [push_cast, Nat.reduceAdd, Nat.reduceSub, Nat.reduceMul, Nat.reduceLT, Nat.reduceLeDiff, Nat.reduceEqDiff, Nat.reduceMod, Nat.reduceDiv, Int.reduceAdd, Int.reduceSub, Int.reduceMul, Int.reduceLT, Int.reduceLE, Int.reduceEq, Int.reduceNeg, Int.reduceToNat, reduceIte, reduceCtorEq, Int.reduceBEq, Int.reduceBNe, hb2, hb3]
        exact ⟨[], List.nil_sublist _, _, rfl, .inl ⟨h0, rfl, rfl⟩⟩
      · simp only [push_cast, Nat.reduceAdd, Nat.reduceSub, Nat.reduceMul, Nat.reduceLT, Nat.reduceLeDiff, Nat.reduceEqDiff, Nat.reduceMod, Nat.reduceDiv, Int.reduceAdd, Int.reduceSub, Int.reduceMul, Int.reduceLT, Int.reduceLE, Int.reduceEq, Int.reduceNeg, Int.reduceToNat, reduceIte, reduceCtorEq, Int.reduceBEq, Int.reduceBNe, hb2, hb3]
        exact ⟨[_], (((List.Sublist.refl _).cons _).cons _).cons _, _, rfl, .inr ⟨bo, co, h0, rfl, hco, rfl⟩⟩
end Go.Proofs.YtkhpncfgimlleaaGreat
set_option linter.unusedSimpArgs false
set_option linter.unusedVariables false
namespace Go.Ev
def Rises (l : List Sl) : Prop := ∀ i x y, l[i]? = some x → l[i + 1]? = some y → x.key.num < y.key.num
noncomputable def risesB (l : List Sl) : Bool := @decide (Rises l) (Classical.propDecidable _)
theorem risesB_true {l : List Sl} (h : Rises l) : risesB l = true := by unfold risesB; simpa using h
theorem risesB_false {l : List Sl} (h : ¬ Rises l) : risesB l = false := by unfold risesB; simpa using h
theorem W.cmp_neg {x y : W} : x.cmp y < 0 ↔ x.num < y.num := by unfold W.cmp; repeat' split <;> omega
theorem SlH.marks {l : List Sl} {v : Value} {Hf : Hp} (h : SlH l v Hf) : marksOf Hf = [] := by
  obtain ⟨p, c, rfl, ⟨rfl, rfl⟩ | ⟨b, o, rfl, rfl⟩⟩ := h <;> rfl
theorem SlH.r {l : List Sl} {v : Value} {Hf : Hp} (h : SlH l v Hf) : SlR Hf l v := by
  obtain ⟨p, c, rfl, ⟨rfl, rfl⟩ | ⟨b, o, rfl, rfl⟩⟩ := h
  · exact ⟨p, c, rfl, .inl rfl⟩
  · refine ⟨_, c, rfl, .inr ⟨b, o, rfl, ?_⟩⟩
    simp only [cellsAt, findE, if_true, Nat.le_refl, Nat.sub_self, subL, Nat.zero_add, slC_len, List.drop_zero]
    rw [← slC_len, List.take_length]
theorem SlH.der {l : List Sl} {v : Value} {Hf : Hp} (h : SlH l v Hf) : derE Hf Hf := by
  have hr := h.r
  obtain ⟨p, c, rfl, ⟨rfl, rfl⟩ | ⟨b, o, rfl, rfl⟩⟩ := h
  · trivial
  · refine ⟨⟨rfl, ?_⟩, trivial⟩
    simp only [cellsAt, findE, if_true, Nat.le_refl, Nat.sub_self, subL, Nat.zero_add, List.drop_zero, List.take_length]
theorem OutS.wr {e : Nat} {l : List Sl} {v : Value} {N : Hp} (h : OutS e l v N) : allWr N ∧ marksOf N = [] := by
  obtain ⟨rfl, rfl, rfl⟩ | ⟨b, c, h0, rfl, hc, rfl⟩ := h
  · exact ⟨trivial, rfl⟩
  · exact ⟨⟨trivial, trivial⟩, rfl⟩
theorem OutS.r {e : Nat} {l : List Sl} {v : Value} {N H : Hp} (h : OutS e l v N) : SlR (N ++ H) l v := by
  obtain ⟨rfl, rfl, rfl⟩ | ⟨b, c, h0, rfl, hc, rfl⟩ := h
  · exact ⟨none, 0, rfl, .inl rfl⟩
  · refine ⟨_, c, rfl, .inr ⟨b, 0, rfl, ?_⟩⟩
    simp only [cellsAt, List.cons_append, findE, if_true, Nat.le_refl, Nat.sub_self, subL, Nat.zero_add, slC_len, List.drop_zero]
    rw [← slC_len, List.take_length]
noncomputable def patchB (l : List Sl) : Bool := decide (l.length ≤ 1000) && risesB l
noncomputable def cmpWG : List Value → Option Value
  | [x, y] => (wOf x).bind fun a => (wOf y).bind fun b => some (.int .i64 (a.cmp b))
  | _ => none
attribute [push_cast] cmpWG
theorem cmpWG_some {args : List Value} {v : Value} (h : cmpWG args = some v) : ∃ x y : W, args = [x.v, y.v] ∧ v = .int .i64 (x.cmp y) := by
  unfold cmpWG at h
  split at h
  · rename_i x y
    cases hx : wOf x with
    | none => simp [hx] at h
    | some a =>
      cases hy : wOf y with
      | none => simp [hx, hy] at h
      | some b => simp [hx, hy] at h; exact ⟨a, b, by rw [wOf_some hx, wOf_some hy], h.symm⟩
  · cases h
end Go.Ev
namespace Go.Proofs.YtkhpncfgimlleaaGreat
open Go Go.Ev Go.Proofs
set_option maxRecDepth 100000
set_option maxHeartbeats 4000000
noncomputable def gB : Gam := addG 100 cmpWG (addG 96 cmpWG noG)
attribute [push_cast] gB
theorem gB_ok : GamOk Tryz.prog gB := by
  refine addG_ok (fun args v h => ?_) (addG_ok (fun args v h => ?_) (noG_ok _))
  · obtain ⟨x, y, rfl, rfl⟩ := cmpWG_some h; exact wordCmp x y
  · obtain ⟨x, y, rfl, rfl⟩ := cmpWG_some h; exact refCmp x y
theorem rises_ok {Hf : Hp} {l : List Sl} {w : Value} (hv : SlH l w Hf) (hn : l.length ≤ 4000) :
    CallsV Tryz.prog 95 [.agg #[w, .func (.func 100) #[] #[]]] Hf (Ret0 (.bool (risesB l))) := by
  obtain ⟨p, c, rfl, ⟨rfl, rfl⟩ | ⟨b, o, rfl, rfl⟩⟩ := hv
  · have h0 : risesB [] = true := risesB_true (by intro i x y h; simp at h)
    refine callsO gB_ok Tryz.mix Tryz.pl95 Tryz.func95 rfl Tryz.ntmps95 Tryz.results95 rfl (by first | rfl | assumption) (Nat.le_of_ble_eq_true rfl) (by kernel_rfl) ?_
    simp only [push_cast, Nat.reduceAdd, Nat.reduceSub, Nat.reduceMul, Nat.reduceLT, Nat.reduceLeDiff, Nat.reduceEqDiff, Nat.reduceMod, Nat.reduceDiv, Int.reduceAdd, Int.reduceSub, Int.reduceMul, Int.reduceLT, Int.reduceLE, Int.reduceEq, Int.reduceNeg, Int.reduceToNat, reduceIte, reduceCtorEq, Int.reduceBEq, Int.reduceBNe]
    intro b1
    refine unrollO gB_ok (pl := Tryz.pl95) Tryz.mix 1 (by kernel_rfl) ?_
    simp only [push_cast, Nat.reduceAdd, Nat.reduceSub, Nat.reduceMul, Nat.reduceLT, Nat.reduceLeDiff, Nat.reduceEqDiff, Nat.reduceMod, Nat.reduceDiv, Int.reduceAdd, Int.reduceSub, Int.reduceMul, Int.reduceLT, Int.reduceLE, Int.reduceEq, Int.reduceNeg, Int.reduceToNat, reduceIte, reduceCtorEq, Int.reduceBEq, Int.reduceBNe, h0]
  refine callsO gB_ok Tryz.mix Tryz.pl95 Tryz.func95 rfl Tryz.ntmps95 Tryz.results95 rfl (by first | rfl | assumption) (Nat.le_of_ble_eq_true rfl) (by kernel_rfl) ?_
  simp only [push_cast, Nat.reduceAdd, Nat.reduceSub, Nat.reduceMul, Nat.reduceLT, Nat.reduceLeDiff, Nat.reduceEqDiff, Nat.reduceMod, Nat.reduceDiv, Int.reduceAdd, Int.reduceSub, Int.reduceMul, Int.reduceLT, Int.reduceLE, Int.reduceEq, Int.reduceNeg, Int.reduceToNat, reduceIte, reduceCtorEq, Int.reduceBEq, Int.reduceBNe]
  intro b1 hb1
  refine loopO gB_ok (pl := Tryz.pl95) Tryz.mix (X := Nat)
    (fun k => ([(1, .pointer (some ⟨b1, 0, none⟩)), (2, .bool false), (6, .int .i64 l.length), (7, .int .i64 k)],
      [⟨b1, 0, .cel 123, [.slice (some ⟨b, o, none⟩) l.length c, .func (.func 100) #[] #[]]⟩, ⟨b, o, .ro, slC l⟩]))
    (fun k => k ≤ l.length ∧ ∀ i x y, i + 1 < k → l[i]? = some x → l[i + 1]? = some y → x.key.num < y.key.num) (fun k => l.length - k) 0 ?_ ?_ (by kernel_rfl) ?_
  · exact ⟨Nat.zero_le _, fun i x y h => by omega⟩
  · simp only [push_cast, Nat.reduceAdd, Nat.reduceSub, Nat.reduceMul, Nat.reduceLT, Nat.reduceLeDiff, Nat.reduceEqDiff, Nat.reduceMod, Nat.reduceDiv, Int.reduceAdd, Int.reduceSub, Int.reduceMul, Int.reduceLT, Int.reduceLE, Int.reduceEq, Int.reduceNeg, Int.reduceToNat, reduceIte, reduceCtorEq, Int.reduceBEq, Int.reduceBNe, *]
  · rintro k ⟨hk, ho⟩
    dsimp only at hk ho ⊢
    rcases Nat.lt_or_ge k l.length with hlt | hge
    · obtain ⟨x, hx⟩ : ∃ x, l[k]? = some x := ⟨l[k], List.getElem?_eq_getElem hlt⟩
      have hat := slC_at hx
      rcases Nat.eq_zero_or_pos k with rfl | hpos
      · simp only [push_cast, Nat.reduceAdd, Nat.reduceSub, Nat.reduceMul, Nat.reduceLT, Nat.reduceLeDiff, Nat.reduceEqDiff, Nat.reduceMod, Nat.reduceDiv, Int.reduceAdd, Int.reduceSub, Int.reduceMul, Int.reduceLT, Int.reduceLE, Int.reduceEq, Int.reduceNeg, Int.reduceToNat, reduceIte, reduceCtorEq, Int.reduceBEq, Int.reduceBNe, hlt, hb1, Int.lt_irrefl]
        exact ⟨1, ⟨hlt, fun i x y h => by omega⟩, by omega, rfl⟩
      · obtain ⟨j, rfl⟩ : ∃ j, k = j + 1 := ⟨k - 1, by omega⟩
        obtain ⟨y, hy⟩ : ∃ y, l[j]? = some y := ⟨l[j], List.getElem?_eq_getElem (by omega)⟩
        have hat' := slC_at hy
        have e1 : ((0 : Int) < (j : Int) + 1) = True := by simp
        have e2 : ((j : Int) + 1).toNat = j + 1 := by omega
        have e3 : ((0 : Int) ≤ (j : Int) + 1 ∧ (j : Int) + 1 < (l.length : Int)) := by omega
        have e4 : j < l.length := by omega
        simp only [push_cast, Nat.reduceAdd, Nat.reduceSub, Nat.reduceMul, Nat.reduceLT, Nat.reduceLeDiff, Nat.reduceEqDiff, Nat.reduceMod, Nat.reduceDiv, Int.reduceAdd, Int.reduceSub, Int.reduceMul, Int.reduceLT, Int.reduceLE, Int.reduceEq, Int.reduceNeg, Int.reduceToNat, reduceIte, reduceCtorEq, Int.reduceBEq, Int.reduceBNe, hlt, hat, hat', hb1, e1, e2, e3, e4, wrap_i64' (show -9223372036854775808 ≤ (j : Int) ∧ (j : Int) ≤ 9223372036854775807 by omega), wrap_i64' (show -9223372036854775808 ≤ (j : Int) + 1 + 1 ∧ (j : Int) + 1 + 1 ≤ 9223372036854775807 by omega)]
        simp only [sel_ite, decide_eq_true_eq, bne_iff_ne, ne_eq, beq_iff_eq]
        split
        · rename_i h
          have h0 : risesB l = false := risesB_false fun hr => by
            have := W.cmp_neg.2 (hr j y x hy hx)
            omega
          rw [h0]
        · rename_i h
          have h2 := W.cmp_neg.1 (Int.not_le.1 h)
          refine ⟨j + 2, ⟨hlt, fun i x' y' hi h3 h4 => ?_⟩, by omega, by simp only [Value.int.injEq, true_and]; omega⟩
          rcases Nat.lt_or_ge (i + 1) (j + 1) with h5 | h5
          · exact ho i x' y' h5 h3 h4
          · obtain rfl : i = j := by omega
            rw [hy] at h3; rw [hx] at h4
            cases h3; cases h4
            exact h2
    · obtain rfl : k = l.length := by omega
      have h0 : risesB l = true := risesB_true (fun i x y hi hj => ho i x y (by have := (List.getElem?_eq_some_iff.1 hj).1; omega) hi hj)
      simp only [push_cast, Nat.reduceAdd, Nat.reduceSub, Nat.reduceMul, Nat.reduceLT, Nat.reduceLeDiff, Nat.reduceEqDiff, Nat.reduceMod, Nat.reduceDiv, Int.reduceAdd, Int.reduceSub, Int.reduceMul, Int.reduceLT, Int.reduceLE, Int.reduceEq, Int.reduceNeg, Int.reduceToNat, reduceIte, reduceCtorEq, Int.reduceBEq, Int.reduceBNe, hb1, Nat.lt_irrefl, h0]
theorem patch_ok {Hf : Hp} {l : List Sl} {v : Value} (hv : SlH l v Hf) : CallsV Tryz.prog 83 [v] Hf (Ret0 (.bool (patchB l))) := by
  have hm := hv.marks
  have hv' := hv
  obtain ⟨p, c, rfl, _⟩ := hv'
  refine callsO gB_ok Tryz.mix Tryz.pl83 Tryz.func83 rfl Tryz.ntmps83 Tryz.results83 rfl (by first | rfl | assumption) (Nat.le_of_ble_eq_true rfl) (by kernel_rfl) ?_
  simp only [push_cast, Nat.reduceAdd, Nat.reduceSub, Nat.reduceMul, Nat.reduceLT, Nat.reduceLeDiff, Nat.reduceEqDiff, Nat.reduceMod, Nat.reduceDiv, Int.reduceAdd, Int.reduceSub, Int.reduceMul, Int.reduceLT, Int.reduceLE, Int.reduceEq, Int.reduceNeg, Int.reduceToNat, reduceIte, reduceCtorEq, Int.reduceBEq, Int.reduceBNe]
  rcases Nat.lt_or_ge 1000 l.length with hlt | hge
  · have e1 : ¬ ((l.length : Int) ≤ 1000) := by omega
    simp only [push_cast, Nat.reduceAdd, Nat.reduceSub, Nat.reduceMul, Nat.reduceLT, Nat.reduceLeDiff, Nat.reduceEqDiff, Nat.reduceMod, Nat.reduceDiv, Int.reduceAdd, Int.reduceSub, Int.reduceMul, Int.reduceLT, Int.reduceLE, Int.reduceEq, Int.reduceNeg, Int.reduceToNat, reduceIte, reduceCtorEq, Int.reduceBEq, Int.reduceBNe, e1, patchB, Nat.not_le.2 hlt]
  · have e1 : ((l.length : Int) ≤ 1000) := by omega
    simp only [push_cast, Nat.reduceAdd, Nat.reduceSub, Nat.reduceMul, Nat.reduceLT, Nat.reduceLeDiff, Nat.reduceEqDiff, Nat.reduceMod, Nat.reduceDiv, Int.reduceAdd, Int.reduceSub, Int.reduceMul, Int.reduceLT, Int.reduceLE, Int.reduceEq, Int.reduceNeg, Int.reduceToNat, reduceIte, reduceCtorEq, Int.reduceBEq, Int.reduceBNe, e1]
    refine (of_ok hv (by omega)).use hv.der ?_
    rintro u N ⟨w, rfl, ho⟩
    refine ⟨ho.wr.1, ho.wr.2, fun _ => ?_⟩
    simp only [push_cast, Nat.reduceAdd, Nat.reduceSub, Nat.reduceMul, Nat.reduceLT, Nat.reduceLeDiff, Nat.reduceEqDiff, Nat.reduceMod, Nat.reduceDiv, Int.reduceAdd, Int.reduceSub, Int.reduceMul, Int.reduceLT, Int.reduceLE, Int.reduceEq, Int.reduceNeg, Int.reduceToNat, reduceIte, reduceCtorEq, Int.reduceBEq, Int.reduceBNe]
    obtain ⟨Hw, hw, hd⟩ := (ho.r (H := Hf)).h
    refine (rises_ok hw (by omega)).pure hd ?_
    simp only [push_cast, Nat.reduceAdd, Nat.reduceSub, Nat.reduceMul, Nat.reduceLT, Nat.reduceLeDiff, Nat.reduceEqDiff, Nat.reduceMod, Nat.reduceDiv, Int.reduceAdd, Int.reduceSub, Int.reduceMul, Int.reduceLT, Int.reduceLE, Int.reduceEq, Int.reduceNeg, Int.reduceToNat, reduceIte, reduceCtorEq, Int.reduceBEq, Int.reduceBNe, patchB, hge]
end Go.Proofs.YtkhpncfgimlleaaGreat
