/- Gt: GasData. -/
import Derived.Test.YtfioapldbajpmaaDoorGs
set_option linter.unusedSimpArgs false
set_option linter.unusedVariables false
namespace Go.Ev
theorem OutG.liR {α : Type} {c : α → List Value} {s e n : Nat} {cs : List Value} {v : Value} {N : Hp} {l : List α} (ho : OutG e s cs n v N) (hn : n = l.length) (hc : cs = l.flatMap c) (X : Hp) : LiR c s (N ++ X) l v := by
  subst hn hc
  rcases ho with ⟨h1, h2, rfl, rfl⟩ | ⟨b, k, rfl, h1, h2, rfl⟩
  · rw [List.length_eq_zero_iff.1 h1]; exact LiR.nil _ _
  · refine ⟨_, k, rfl, .inr ⟨b, 0, rfl, ?_⟩⟩
    unfold cellsAt
    simp only [List.cons_append, findE, if_true, Nat.sub_zero, subL, List.drop_zero]
    rw [if_pos (Nat.zero_le _), if_pos (by omega), List.take_of_length_le (by omega)]
theorem gcopy_mono5 {a b : Nat} (hb : b ≤ 1048576) (h : a ≤ b) : gwordsI a ≤ gwordsI b := by
  rw [gwordsI_eq, gwordsI_eq, gmanyI_in (by omega), gmanyI_in hb]; omega
theorem OutG.slice {e s n : Nat} {cs : List Value} {v : Value} {N : Hp} (h : OutG e s cs n v N) : ∃ p c, v = .slice p n c := by
  rcases h with ⟨rfl, _, rfl, _⟩ | ⟨b, c, rfl, _, _, _⟩
  · exact ⟨_, _, rfl⟩
  · exact ⟨_, _, rfl⟩
theorem LiR.find {α : Type} {c : α → List Value} {s : Nat} {X Y : Hp} {l : List α} {v : Value} (h : ∀ b e, findE X b = some e → findE Y b = some e) (hl : LiR c s X l v) : LiR c s Y l v := by
  obtain ⟨p, k, rfl, h1 | ⟨b, o, rfl, h1⟩⟩ := hl
  · exact ⟨p, k, rfl, .inl h1⟩
  · refine ⟨_, k, rfl, .inr ⟨b, o, rfl, ?_⟩⟩
    obtain ⟨e, he⟩ := cellsAt_findS h1
    unfold cellsAt at h1 ⊢
    rw [h b e he]
    rw [he] at h1
    exact h1
end Go.Ev
namespace Go.Proofs.YtfioapldbajpmaaDoor
open Go Go.Ev Go.Proofs
set_option maxRecDepth 100000
set_option maxHeartbeats 4000000
def plDA : Plans := fun i => if i = 2 then [(0, 9)] else if i = 3 then [(0, 9)] else if i = 4 then [(0, 9)] else if i = 6 then [(0, 9)] else if i = 8 then [(0, 9)] else if i = 9 then [(0, 9)] else Tryd.pl6 i
attribute [push_cast] plDA
def usDA : Nat → List Nat := fun i => if i = 5 then [2] else if i = 11 then [8] else if i = 14 then [13] else []
theorem gasData_ok {M : Hp} {s t : ByteArray} {s0 s1 : List (Int × Int)} {u0 u1 : Value} (hs : s.size < 140737488355328) (ht : t.size < 140737488355328)
    (hs0 : LiR prV 2 M s0 u0) (hs1 : LiR prV 2 M s1 u1) (hi0 : ∀ x ∈ s0, i64In x.1 ∧ i64In x.2) (hi1 : ∀ x ∈ s1, i64In x.1 ∧ i64In x.2) (hm : marksOf M = []) :
    CallsV Tryd.prog 6 [.string s, .string t, .agg #[u0, u1]] M (Ret0 (.bool true)) := by
  obtain ⟨m1, hm1⟩ : ∃ m, m = min 200 s.size := ⟨_, rfl⟩
  obtain ⟨m2, hm2⟩ : ∃ m, m = min 200 t.size := ⟨_, rfl⟩
  have e1 : (if (200 : Int) < (s.size : Int) then (200 : Int) else (s.size : Int)) = (m1 : Int) := by split <;> omega
  have e2 : (if (200 : Int) < (t.size : Int) then (200 : Int) else (t.size : Int)) = (m2 : Int) := by split <;> omega
  have e3 : (if 200 < s.size then (200 : Int) else (s.size : Int)) = (m1 : Int) := by split <;> omega
  have e4 : (if 200 < t.size then (200 : Int) else (t.size : Int)) = (m2 : Int) := by split <;> omega
  have l1 : m1 ≤ s.size := by omega
  have l2 : m2 ≤ t.size := by omega
  obtain ⟨x, hx⟩ : ∃ x, s.extract 0 m1 = x := ⟨_, rfl⟩
  obtain ⟨y, hy⟩ : ∃ y, t.extract 0 m2 = y := ⟨_, rfl⟩
  have hxs : x.size ≤ 200 := by rw [← hx, ByteArray.size_extract]; omega
  have hys : y.size ≤ 200 := by rw [← hy, ByteArray.size_extract]; omega
  have hxl : x.data.toList.length = x.size := by rw [Array.length_toList]; rfl
  have hyl : y.data.toList.length = y.size := by rw [Array.length_toList]; rfl
  have tk : ∀ l : List UInt8, l.length ≤ 1000 → l.take 1048576 = l := fun l h => List.take_of_length_le (by omega)
  have bx := dataN_le x.data.toList
  have by_ := dataN_le y.data.toList
  obtain ⟨a, ha⟩ : ∃ a, a = dataN x.data.toList := ⟨_, rfl⟩
  obtain ⟨b, hb⟩ : ∃ b, b = dataN y.data.toList := ⟨_, rfl⟩
  rw [← ha, hxl] at bx
  rw [← hb, hyl] at by_
  have k21 : ∀ n : Nat, ((21000 + n : Nat) : Int) = 21000 + (n : Int) := fun n => by rw [Int.natCast_add]; rfl
  have sx : (startI x.data.toList false : Int) = 21000 + (a : Int) := by
    rw [startI_eq, tk _ (by omega), ← ha]
    simp only [Bool.false_eq_true, if_false, Nat.add_zero]
    exact k21 a
  have sy : (startI y.data.toList false : Int) = 21000 + (b : Int) := by
    rw [startI_eq, tk _ (by omega), ← hb]
    simp only [Bool.false_eq_true, if_false, Nat.add_zero]
    exact k21 b
  obtain ⟨xy, hxy⟩ : ∃ z, z = x ++ y := ⟨_, rfl⟩
  have hxyl : xy.data.toList = x.data.toList ++ y.data.toList := by rw [hxy]; simp
  have hxys : xy.size = x.size + y.size := by rw [hxy]; simp
  have sxy : (startI xy.data.toList false : Int) = 21000 + (a : Int) + (b : Int) := by
    rw [startI_eq, tk _ (by rw [hxyl, List.length_append]; omega), hxyl, dataN_app, ← ha, ← hb]
    simp only [Bool.false_eq_true, if_false, Nat.add_zero]
    rw [← Nat.add_assoc, Int.natCast_add, k21]
  obtain ⟨g, hg⟩ : ∃ g, g = ginitI (x.size : Int) false := ⟨_, rfl⟩
  have gle := ginitI_le (x.size : Int) false
  rw [← hg] at gle
  have sxt : (startI x.data.toList true : Int) = 21000 + (a : Int) + 32000 + (g : Int) := by
    rw [startI_eq, tk _ (by omega), ← ha, hxl, ← hg]
    simp only [if_true]
    rw [show 21000 + a + (32000 + g) = 21000 + a + 32000 + g by omega, Int.natCast_add, Int.natCast_add, k21]
    rfl
  obtain ⟨u, hu⟩ : ∃ u, u = gwordsI (x.size : Int) := ⟨_, rfl⟩
  obtain ⟨uu, huu⟩ : ∃ u, u = gwordsI (xy.size : Int) := ⟨_, rfl⟩
  have ule := gwordsI_le (x.size : Int)
  have uule := gwordsI_le (xy.size : Int)
  have hmono := gcopy_mono5 (a := x.size) (b := xy.size) (by omega) (by omega)
  rw [← hu] at ule
  rw [← huu] at uule
  rw [← hu, ← huu] at hmono
  have g2 : g = 2 * u := by rw [hg, ginitI_eq, if_neg (by decide), ← hu]
  have g8 : ginitI (x.size : Int) true = g + 6 * u := by rw [ginitI_eq, if_pos rfl, ← hu]; omega
  clear hm1 hm2
  refine callsO gQ2_ok Tryd.mix plDA Tryd.func6 rfl Tryd.ntmps6 Tryd.results6 rfl (by first | rfl | assumption) (Nat.le_of_ble_eq_true rfl) (by kernel_rfl) ?_
  simp only [push_cast, Nat.reduceAdd, Nat.reduceSub, Nat.reduceMul, Nat.reduceLT, Nat.reduceLeDiff, Nat.reduceEqDiff, Nat.reduceMod, Nat.reduceDiv, Int.reduceAdd, Int.reduceSub, Int.reduceMul, Int.reduceLT, Int.reduceLE, Int.reduceEq, Int.reduceNeg, Int.reduceToNat, reduceIte, reduceCtorEq, Int.reduceBEq, Int.reduceBNe, Bool.true_beq, Bool.false_beq, Bool.true_bne, Bool.false_bne, Bool.not_true, Bool.not_false]
  intro b5 hb5
  refine regO gQ2_ok ?_
  simp only [push_cast, Nat.reduceAdd, Nat.reduceSub, Nat.reduceMul, Nat.reduceLT, Nat.reduceLeDiff, Nat.reduceEqDiff, Nat.reduceMod, Nat.reduceDiv, Int.reduceAdd, Int.reduceSub, Int.reduceMul, Int.reduceLT, Int.reduceLE, Int.reduceEq, Int.reduceNeg, Int.reduceToNat, reduceIte, reduceCtorEq, Int.reduceBEq, Int.reduceBNe, Bool.true_beq, Bool.false_beq, Bool.true_bne, Bool.false_bne, Bool.not_true, Bool.not_false, e1, e3, l1, hx]
  refine regO gQ2_ok ?_
  simp only [push_cast, Nat.reduceAdd, Nat.reduceSub, Nat.reduceMul, Nat.reduceLT, Nat.reduceLeDiff, Nat.reduceEqDiff, Nat.reduceMod, Nat.reduceDiv, Int.reduceAdd, Int.reduceSub, Int.reduceMul, Int.reduceLT, Int.reduceLE, Int.reduceEq, Int.reduceNeg, Int.reduceToNat, reduceIte, reduceCtorEq, Int.reduceBEq, Int.reduceBNe, Bool.true_beq, Bool.false_beq, Bool.true_bne, Bool.false_bne, Bool.not_true, Bool.not_false, e2, e4, l2, hy]
  refine regO gQ2_ok ?_
  have d1 : (21000 : Int) + (a : Int) - 21000 = (a : Int) := by omega
  have d2 : (21000 : Int) + (b : Int) - 21000 = (b : Int) := by omega
  simp only [push_cast, Nat.reduceAdd, Nat.reduceSub, Nat.reduceMul, Nat.reduceLT, Nat.reduceLeDiff, Nat.reduceEqDiff, Nat.reduceMod, Nat.reduceDiv, Int.reduceAdd, Int.reduceSub, Int.reduceMul, Int.reduceLT, Int.reduceLE, Int.reduceEq, Int.reduceNeg, Int.reduceToNat, reduceIte, reduceCtorEq, Int.reduceBEq, Int.reduceBNe, Bool.true_beq, Bool.false_beq, Bool.true_bne, Bool.false_bne, Bool.not_true, Bool.not_false, sx, sy, d1, d2, wrap_i64' (show -9223372036854775808 ≤ (a : Int) ∧ (a : Int) ≤ 9223372036854775807 by omega), wrap_i64' (show -9223372036854775808 ≤ (b : Int) ∧ (b : Int) ≤ 9223372036854775807 by omega)]
  refine regO gQ2_ok ?_
  simp only [push_cast, Nat.reduceAdd, Nat.reduceSub, Nat.reduceMul, Nat.reduceLT, Nat.reduceLeDiff, Nat.reduceEqDiff, Nat.reduceMod, Nat.reduceDiv, Int.reduceAdd, Int.reduceSub, Int.reduceMul, Int.reduceLT, Int.reduceLE, Int.reduceEq, Int.reduceNeg, Int.reduceToNat, reduceIte, reduceCtorEq, Int.reduceBEq, Int.reduceBNe, Bool.true_beq, Bool.false_beq, Bool.true_bne, Bool.false_bne, Bool.not_true, Bool.not_false]
  refine useL [⟨b5, 0, .cel 27, [u0, u1]⟩] (setsR_R hs0 hs1 hi0 hi1) (SetQ.rd _ _) hm ⟨hb5, trivial⟩ fun v2 M2 hg2 hL2 hq2 => ?_
  have q3 : (setsR s0 s1).1.length ≤ 15 := Nat.le_trans (setK_len (keysR s0)) (keysR_len s0)
  have q4 : (setsR s0 s1).2.length ≤ 15 := Nat.le_trans (setK_len (keysR s1)) (keysR_len s1)
  have o1 : (setsR s0 s1).1.Nodup := (setK_sort (keysR s0)).nodup
  have o2 : (setsR s0 s1).2.Nodup := (setK_sort (keysR s1)).nodup
  obtain ⟨R, hR⟩ : ∃ R, R = (setsR s0 s1).1 := ⟨_, rfl⟩
  obtain ⟨W', hW⟩ : ∃ R, R = (setsR s0 s1).2 := ⟨_, rfl⟩
  rw [← hR] at q3 o1 hq2
  rw [← hW] at q4 o2 hq2
  clear hR hW
  obtain ⟨vr2, vw2, rfl, hr2, hw2⟩ := hq2
  have hr2' := hr2
  have hw2' := hw2
  obtain ⟨p1, c1, rfl, -⟩ := hr2
  obtain ⟨p2, c2, rfl, -⟩ := hw2
  simp only [push_cast, Nat.reduceAdd, Nat.reduceSub, Nat.reduceMul, Nat.reduceLT, Nat.reduceLeDiff, Nat.reduceEqDiff, Nat.reduceMod, Nat.reduceDiv, Int.reduceAdd, Int.reduceSub, Int.reduceMul, Int.reduceLT, Int.reduceLE, Int.reduceEq, Int.reduceNeg, Int.reduceToNat, reduceIte, reduceCtorEq, Int.reduceBEq, Int.reduceBNe, Bool.true_beq, Bool.false_beq, Bool.true_bne, Bool.false_bne, Bool.not_true, Bool.not_false]
  intro b12 hb12
  have hmM2 := hg2.marks
  have hL3 : freshN [⟨b12, 0, .cel 30, [.slice p1 R.length c1, .slice p2 W'.length c2]⟩, ⟨b5, 0, .cel 27, [u0, u1]⟩] M2 := ⟨hb12.2.2, hL2⟩
  have hrX : LiR KeyT.cells 25 (⟨b12, 0, .cel 30, [.slice p1 R.length c1, .slice p2 W'.length c2]⟩ :: ⟨b5, 0, .cel 27, [u0, u1]⟩ :: M2) R (.slice p1 R.length c1) := hr2'.app hL3
  have hwX : LiR KeyT.cells 25 (⟨b12, 0, .cel 30, [.slice p1 R.length c1, .slice p2 W'.length c2]⟩ :: ⟨b5, 0, .cel 27, [u0, u1]⟩ :: M2) W' (.slice p2 W'.length c2) := hw2'.app hL3
  have f12 : findE (⟨b12, 0, .cel 30, [.slice p1 R.length c1, .slice p2 W'.length c2]⟩ :: ⟨b5, 0, .cel 27, [u0, u1]⟩ :: M2) b12 = some ⟨b12, 0, .cel 30, [.slice p1 R.length c1, .slice p2 W'.length c2]⟩ := by simp [findE]
  have rl := flatMap_len (fun x : KeyT => KeyT.len x) R
  have wl := flatMap_len (fun x : KeyT => KeyT.len x) W'
  have ra := keyC_all R
  have wa := keyC_all W'
  refine drawS gQ2_ok Tryd.mix [(7, .bool true), (8, .string x), (9, .string y), (10, .int .i64 a), (11, .int .i64 b), (12, .pointer (some ⟨b12, 0, none⟩))]
    (fun i val => match i with
      | 0 => val 0 = .pointer (some ⟨b12, 0, none⟩)
      | 1 => val 1 = .slice p1 R.length c1
      | 3 => val 3 = .pointer (some ⟨b12, 1, none⟩)
      | 4 => val 4 = .slice p2 W'.length c2
      | 6 => val 6 = .pointer (some ⟨b12, 1, none⟩)
      | 7 => val 7 = .slice p2 W'.length c2
      | 9 => val 9 = .pointer (some ⟨b12, 0, none⟩)
      | 10 => val 10 = .slice p1 R.length c1
      | 5 => ∃ p c, val 5 = .slice p (R.length + W'.length) c
      | 11 => ∃ p c, val 11 = .slice p (W'.length + R.length) c
      | 12 => val 12 = .agg #[val 5, val 11] ∧ (∃ p c, val 5 = .slice p (R.length + W'.length) c) ∧ ∃ p c, val 11 = .slice p (W'.length + R.length) c
      | 13 => ∃ b, val 13 = .pointer (some ⟨b, 0, none⟩)
      | _ => True)
    (fun i val N => match i with
      | 2 => OutG 58 25 (R.flatMap KeyT.cells) R.length (val 2) N
      | 8 => OutG 58 25 (W'.flatMap KeyT.cells) W'.length (val 8) N
      | 5 => OutG 58 25 (R.flatMap KeyT.cells ++ W'.flatMap KeyT.cells) (R.length + W'.length) (val 5) N
      | 11 => OutG 58 25 (W'.flatMap KeyT.cells ++ R.flatMap KeyT.cells) (W'.length + R.length) (val 11) N
      | 13 => ∃ b, val 13 = .pointer (some ⟨b, 0, none⟩) ∧ N = [⟨b, 0, .cel 30, [.slice none 0 0, .slice none 0 0]⟩]
      | 14 => ∃ b va vb, val 13 = .pointer (some ⟨b, 0, none⟩) ∧ val 12 = .agg #[va, vb] ∧ N = [⟨b, 0, .cel 30, [va, vb]⟩]
      | _ => N = []) usDA [5, 11, 14] (by kernel_rfl) (by kernel_rfl) (by kernel_rfl) ?_ (by rfl) (by decide) (by kernel_rfl) ?_ ?_ ?_ ?_ ?_
  · simp only [push_cast, Nat.reduceAdd, Nat.reduceSub, Nat.reduceMul, Nat.reduceLT, Nat.reduceLeDiff, Nat.reduceEqDiff, Nat.reduceMod, Nat.reduceDiv, Int.reduceAdd, Int.reduceSub, Int.reduceMul, Int.reduceLT, Int.reduceLE, Int.reduceEq, Int.reduceNeg, Int.reduceToNat, reduceIte, reduceCtorEq, Int.reduceBEq, Int.reduceBNe, Bool.true_beq, Bool.false_beq, Bool.true_bne, Bool.false_bne, Bool.not_true, Bool.not_false, subT]
  · intro i hi hiF
    replace hi : i < 15 := hi
    obtain rfl | rfl | rfl | rfl | rfl | rfl | rfl | rfl | rfl | rfl | rfl | rfl | rfl | rfl | rfl : i = 0 ∨ i = 1 ∨ i = 2 ∨ i = 3 ∨ i = 4 ∨ i = 5 ∨ i = 6 ∨ i = 7 ∨ i = 8 ∨ i = 9 ∨ i = 10 ∨ i = 11 ∨ i = 12 ∨ i = 13 ∨ i = 14 := by omega
    all_goals first
      | exact .inl fun _ _ h => h
      | exact absurd (by decide) hiF
      | exact .inr (by kernel_rfl)
  · intro i o ho val val' h1 h2 hV
    have hi := (Array.getElem?_eq_some_iff.1 ho).1
    replace hi : i < 15 := hi
    obtain rfl | rfl | rfl | rfl | rfl | rfl | rfl | rfl | rfl | rfl | rfl | rfl | rfl | rfl | rfl : i = 0 ∨ i = 1 ∨ i = 2 ∨ i = 3 ∨ i = 4 ∨ i = 5 ∨ i = 6 ∨ i = 7 ∨ i = 8 ∨ i = 9 ∨ i = 10 ∨ i = 11 ∨ i = 12 ∨ i = 13 ∨ i = 14 := by omega
    all_goals first
      | exact trivial
      | exact h1.trans hV
      | (rw [h1]; exact hV)
      | skip
    simp only [List.getElem?_toArray, List.getElem?_cons_zero, List.getElem?_cons_succ, Option.some.injEq] at ho; subst ho
    have h5 := h2 5 (by kernel_rfl)
    have h11 := h2 11 (by kernel_rfl)
    show val' 12 = .agg #[val' 5, val' 11] ∧ (∃ p c, val' 5 = _) ∧ ∃ p c, val' 11 = _
    rw [h1, h5, h11]
    exact hV
  · intro i o ho val val' N h1 h2 hQ
    have hi := (Array.getElem?_eq_some_iff.1 ho).1
    replace hi : i < 15 := hi
    obtain rfl | rfl | rfl | rfl | rfl | rfl | rfl | rfl | rfl | rfl | rfl | rfl | rfl | rfl | rfl : i = 0 ∨ i = 1 ∨ i = 2 ∨ i = 3 ∨ i = 4 ∨ i = 5 ∨ i = 6 ∨ i = 7 ∨ i = 8 ∨ i = 9 ∨ i = 10 ∨ i = 11 ∨ i = 12 ∨ i = 13 ∨ i = 14 := by omega
    all_goals first
      | exact hQ
      | (rw [h1]; exact hQ)
      | skip
    simp only [List.getElem?_toArray, List.getElem?_cons_zero, List.getElem?_cons_succ, Option.some.injEq] at ho; subst ho
    have h12 := h2 12 (by kernel_rfl)
    have h13 := h2 13 (by kernel_rfl)
    show ∃ b va vb, val' 13 = _ ∧ val' 12 = _ ∧ _
    rw [h12, h13]
    exact hQ
  · intro i o ho T' Y val mem hT hdep hus hfr hY hmY hapY
    have hi := (Array.getElem?_eq_some_iff.1 ho).1
    replace hi : i < 15 := hi
    have t12 : getT T' 12 = some (.pointer (some ⟨b12, 0, none⟩)) := hT.2.2.2.2.2.1
    have y12 := hY _ _ f12
    have hrY := hrX.find hY
    have hwY := hwX.find hY
    obtain rfl | rfl | rfl | rfl | rfl | rfl | rfl | rfl | rfl | rfl | rfl | rfl | rfl | rfl | rfl : i = 0 ∨ i = 1 ∨ i = 2 ∨ i = 3 ∨ i = 4 ∨ i = 5 ∨ i = 6 ∨ i = 7 ∨ i = 8 ∨ i = 9 ∨ i = 10 ∨ i = 11 ∨ i = 12 ∨ i = 13 ∨ i = 14 := by omega
    · simp only [List.getElem?_toArray, List.getElem?_cons_zero, List.getElem?_cons_succ, Option.some.injEq] at ho; subst ho
      simp only [push_cast, Nat.reduceAdd, Nat.reduceSub, Nat.reduceMul, Nat.reduceLT, Nat.reduceLeDiff, Nat.reduceEqDiff, Nat.reduceMod, Nat.reduceDiv, Int.reduceAdd, Int.reduceSub, Int.reduceMul, Int.reduceLT, Int.reduceLE, Int.reduceEq, Int.reduceNeg, Int.reduceToNat, reduceIte, reduceCtorEq, Int.reduceBEq, Int.reduceBNe, Bool.true_beq, Bool.false_beq, Bool.true_bne, Bool.false_bne, Bool.not_true, Bool.not_false, usDA, List.flatMap_nil, List.flatMap_cons, List.append_nil, List.nil_append, t12]
      exact ⟨[], rfl, trivial, rfl, upd_self _ _ _, rfl⟩
    · simp only [List.getElem?_toArray, List.getElem?_cons_zero, List.getElem?_cons_succ, Option.some.injEq] at ho; subst ho
      obtain ⟨v0, g0⟩ := hdep 0 (by kernel_rfl)
      replace g0 := g0 37 rfl
      rw [show val 0 = _ from v0] at g0
      simp only [push_cast, Nat.reduceAdd, Nat.reduceSub, Nat.reduceMul, Nat.reduceLT, Nat.reduceLeDiff, Nat.reduceEqDiff, Nat.reduceMod, Nat.reduceDiv, Int.reduceAdd, Int.reduceSub, Int.reduceMul, Int.reduceLT, Int.reduceLE, Int.reduceEq, Int.reduceNeg, Int.reduceToNat, reduceIte, reduceCtorEq, Int.reduceBEq, Int.reduceBNe, Bool.true_beq, Bool.false_beq, Bool.true_bne, Bool.false_bne, Bool.not_true, Bool.not_false, usDA, List.flatMap_nil, List.flatMap_cons, List.append_nil, List.nil_append, g0, y12]
      exact ⟨[], rfl, trivial, rfl, upd_self _ _ _, rfl⟩
    · simp only [List.getElem?_toArray, List.getElem?_cons_zero, List.getElem?_cons_succ, Option.some.injEq] at ho; subst ho
      obtain ⟨v1, g1⟩ := hdep 1 (by kernel_rfl)
      replace g1 := g1 38 rfl
      rw [show val 1 = _ from v1] at g1
      simp only [push_cast, Nat.reduceAdd, Nat.reduceSub, Nat.reduceMul, Nat.reduceLT, Nat.reduceLeDiff, Nat.reduceEqDiff, Nat.reduceMod, Nat.reduceDiv, Int.reduceAdd, Int.reduceSub, Int.reduceMul, Int.reduceLT, Int.reduceLE, Int.reduceEq, Int.reduceNeg, Int.reduceToNat, reduceIte, reduceCtorEq, Int.reduceBEq, Int.reduceBNe, Bool.true_beq, Bool.false_beq, Bool.true_bne, Bool.false_bne, Bool.not_true, Bool.not_false, usDA, List.flatMap_nil, List.flatMap_cons, List.append_nil, List.nil_append, g1, (hrY.src (q := 25) (ag := true) (by simp only [push_cast, Nat.reduceAdd, Nat.reduceSub, Nat.reduceMul, Nat.reduceLT, Nat.reduceLeDiff, Nat.reduceEqDiff, Nat.reduceMod, Nat.reduceDiv, Int.reduceAdd, Int.reduceSub, Int.reduceMul, Int.reduceLT, Int.reduceLE, Int.reduceEq, Int.reduceNeg, Int.reduceToNat, reduceIte, reduceCtorEq, Int.reduceBEq, Int.reduceBNe, Bool.true_beq, Bool.false_beq, Bool.true_bne, Bool.false_bne, Bool.not_true, Bool.not_false]) : srcL Tryd.prog Y 28 _ 25 = _)]
      refine ⟨fun h0 => ⟨[], rfl, trivial, rfl, ?_⟩, fun h0 => ⟨by unfold two47; omega, fun b c' hf hc' => ⟨[_], rfl, ⟨trivial, trivial⟩, rfl, ?_⟩⟩⟩
      · rw [List.length_eq_zero_iff.1 h0, upd_self]; exact .inl ⟨rfl, rfl, rfl, rfl⟩
      · rw [upd_self]; exact .inr ⟨b, c', rfl, hc', rl, rfl⟩
    · simp only [List.getElem?_toArray, List.getElem?_cons_zero, List.getElem?_cons_succ, Option.some.injEq] at ho; subst ho
      simp only [push_cast, Nat.reduceAdd, Nat.reduceSub, Nat.reduceMul, Nat.reduceLT, Nat.reduceLeDiff, Nat.reduceEqDiff, Nat.reduceMod, Nat.reduceDiv, Int.reduceAdd, Int.reduceSub, Int.reduceMul, Int.reduceLT, Int.reduceLE, Int.reduceEq, Int.reduceNeg, Int.reduceToNat, reduceIte, reduceCtorEq, Int.reduceBEq, Int.reduceBNe, Bool.true_beq, Bool.false_beq, Bool.true_bne, Bool.false_bne, Bool.not_true, Bool.not_false, usDA, List.flatMap_nil, List.flatMap_cons, List.append_nil, List.nil_append, t12]
      exact ⟨[], rfl, trivial, rfl, upd_self _ _ _, rfl⟩
    · simp only [List.getElem?_toArray, List.getElem?_cons_zero, List.getElem?_cons_succ, Option.some.injEq] at ho; subst ho
      obtain ⟨v3, g3⟩ := hdep 3 (by kernel_rfl)
      replace g3 := g3 40 rfl
      rw [show val 3 = _ from v3] at g3
      simp only [push_cast, Nat.reduceAdd, Nat.reduceSub, Nat.reduceMul, Nat.reduceLT, Nat.reduceLeDiff, Nat.reduceEqDiff, Nat.reduceMod, Nat.reduceDiv, Int.reduceAdd, Int.reduceSub, Int.reduceMul, Int.reduceLT, Int.reduceLE, Int.reduceEq, Int.reduceNeg, Int.reduceToNat, reduceIte, reduceCtorEq, Int.reduceBEq, Int.reduceBNe, Bool.true_beq, Bool.false_beq, Bool.true_bne, Bool.false_bne, Bool.not_true, Bool.not_false, usDA, List.flatMap_nil, List.flatMap_cons, List.append_nil, List.nil_append, g3, y12]
      exact ⟨[], rfl, trivial, rfl, upd_self _ _ _, rfl⟩
    · simp only [List.getElem?_toArray, List.getElem?_cons_zero, List.getElem?_cons_succ, Option.some.injEq] at ho; subst ho
      obtain ⟨-, g2⟩ := hdep 2 (by kernel_rfl)
      replace g2 := g2 39 rfl
      obtain ⟨v4, g4⟩ := hdep 4 (by kernel_rfl)
      replace g4 := g4 41 rfl
      rw [show val 4 = _ from v4] at g4
      have hq := hus 2 (List.mem_singleton.2 rfl)
      simp only [push_cast, Nat.reduceAdd, Nat.reduceSub, Nat.reduceMul, Nat.reduceLT, Nat.reduceLeDiff, Nat.reduceEqDiff, Nat.reduceMod, Nat.reduceDiv, Int.reduceAdd, Int.reduceSub, Int.reduceMul, Int.reduceLT, Int.reduceLE, Int.reduceEq, Int.reduceNeg, Int.reduceToNat, reduceIte, reduceCtorEq, Int.reduceBEq, Int.reduceBNe, Bool.true_beq, Bool.false_beq, Bool.true_bne, Bool.false_bne, Bool.not_true, Bool.not_false, usDA, List.flatMap_nil, List.flatMap_cons, List.append_nil, List.nil_append, g2, g4]
      rw [show List.flatMap mem (usDA 5) = mem 2 by simp [usDA]] at hfr
      refine append_g (e := 58) (sz := 25) (by_ := 56) (m := W'.length) (ys := W'.flatMap KeyT.cells) hq (by simp only [push_cast, Nat.reduceAdd, Nat.reduceSub, Nat.reduceMul, Nat.reduceLT, Nat.reduceLeDiff, Nat.reduceEqDiff, Nat.reduceMod, Nat.reduceDiv, Int.reduceAdd, Int.reduceSub, Int.reduceMul, Int.reduceLT, Int.reduceLE, Int.reduceEq, Int.reduceNeg, Int.reduceToNat, reduceIte, reduceCtorEq, Int.reduceBEq, Int.reduceBNe, Bool.true_beq, Bool.false_beq, Bool.true_bne, Bool.false_bne, Bool.not_true, Bool.not_false]) ((hwY.app hfr).src (q := 25) (ag := true) (by simp only [push_cast, Nat.reduceAdd, Nat.reduceSub, Nat.reduceMul, Nat.reduceLT, Nat.reduceLeDiff, Nat.reduceEqDiff, Nat.reduceMod, Nat.reduceDiv, Int.reduceAdd, Int.reduceSub, Int.reduceMul, Int.reduceLT, Int.reduceLE, Int.reduceEq, Int.reduceNeg, Int.reduceToNat, reduceIte, reduceCtorEq, Int.reduceBEq, Int.reduceBNe, Bool.true_beq, Bool.false_beq, Bool.true_bne, Bool.false_bne, Bool.not_true, Bool.not_false])) wl wa (by unfold two47; omega) fun v' N' ho' hf' => ⟨N', rfl, ho'.wr.1, ho'.wr.2, ?_, ?_⟩
      · show ∃ p c, upd val 5 v' 5 = _
        rw [upd_self]; exact ho'.slice
      · show OutG _ _ _ _ (upd val 5 v' 5) _
        rw [upd_self]; exact ho'
    · simp only [List.getElem?_toArray, List.getElem?_cons_zero, List.getElem?_cons_succ, Option.some.injEq] at ho; subst ho
      simp only [push_cast, Nat.reduceAdd, Nat.reduceSub, Nat.reduceMul, Nat.reduceLT, Nat.reduceLeDiff, Nat.reduceEqDiff, Nat.reduceMod, Nat.reduceDiv, Int.reduceAdd, Int.reduceSub, Int.reduceMul, Int.reduceLT, Int.reduceLE, Int.reduceEq, Int.reduceNeg, Int.reduceToNat, reduceIte, reduceCtorEq, Int.reduceBEq, Int.reduceBNe, Bool.true_beq, Bool.false_beq, Bool.true_bne, Bool.false_bne, Bool.not_true, Bool.not_false, usDA, List.flatMap_nil, List.flatMap_cons, List.append_nil, List.nil_append, t12]
      exact ⟨[], rfl, trivial, rfl, upd_self _ _ _, rfl⟩
    · simp only [List.getElem?_toArray, List.getElem?_cons_zero, List.getElem?_cons_succ, Option.some.injEq] at ho; subst ho
      obtain ⟨v6, g6⟩ := hdep 6 (by kernel_rfl)
      replace g6 := g6 43 rfl
      rw [show val 6 = _ from v6] at g6
      simp only [push_cast, Nat.reduceAdd, Nat.reduceSub, Nat.reduceMul, Nat.reduceLT, Nat.reduceLeDiff, Nat.reduceEqDiff, Nat.reduceMod, Nat.reduceDiv, Int.reduceAdd, Int.reduceSub, Int.reduceMul, Int.reduceLT, Int.reduceLE, Int.reduceEq, Int.reduceNeg, Int.reduceToNat, reduceIte, reduceCtorEq, Int.reduceBEq, Int.reduceBNe, Bool.true_beq, Bool.false_beq, Bool.true_bne, Bool.false_bne, Bool.not_true, Bool.not_false, usDA, List.flatMap_nil, List.flatMap_cons, List.append_nil, List.nil_append, g6, y12]
      exact ⟨[], rfl, trivial, rfl, upd_self _ _ _, rfl⟩
    · simp only [List.getElem?_toArray, List.getElem?_cons_zero, List.getElem?_cons_succ, Option.some.injEq] at ho; subst ho
      obtain ⟨v7, g7⟩ := hdep 7 (by kernel_rfl)
      replace g7 := g7 44 rfl
      rw [show val 7 = _ from v7] at g7
      simp only [push_cast, Nat.reduceAdd, Nat.reduceSub, Nat.reduceMul, Nat.reduceLT, Nat.reduceLeDiff, Nat.reduceEqDiff, Nat.reduceMod, Nat.reduceDiv, Int.reduceAdd, Int.reduceSub, Int.reduceMul, Int.reduceLT, Int.reduceLE, Int.reduceEq, Int.reduceNeg, Int.reduceToNat, reduceIte, reduceCtorEq, Int.reduceBEq, Int.reduceBNe, Bool.true_beq, Bool.false_beq, Bool.true_bne, Bool.false_bne, Bool.not_true, Bool.not_false, usDA, List.flatMap_nil, List.flatMap_cons, List.append_nil, List.nil_append, g7, (hwY.src (q := 25) (ag := true) (by simp only [push_cast, Nat.reduceAdd, Nat.reduceSub, Nat.reduceMul, Nat.reduceLT, Nat.reduceLeDiff, Nat.reduceEqDiff, Nat.reduceMod, Nat.reduceDiv, Int.reduceAdd, Int.reduceSub, Int.reduceMul, Int.reduceLT, Int.reduceLE, Int.reduceEq, Int.reduceNeg, Int.reduceToNat, reduceIte, reduceCtorEq, Int.reduceBEq, Int.reduceBNe, Bool.true_beq, Bool.false_beq, Bool.true_bne, Bool.false_bne, Bool.not_true, Bool.not_false]) : srcL Tryd.prog Y 28 _ 25 = _)]
      refine ⟨fun h0 => ⟨[], rfl, trivial, rfl, ?_⟩, fun h0 => ⟨by unfold two47; omega, fun b c' hf hc' => ⟨[_], rfl, ⟨trivial, trivial⟩, rfl, ?_⟩⟩⟩
      · rw [List.length_eq_zero_iff.1 h0, upd_self]; exact .inl ⟨rfl, rfl, rfl, rfl⟩
      · rw [upd_self]; exact .inr ⟨b, c', rfl, hc', wl, rfl⟩
    · simp only [List.getElem?_toArray, List.getElem?_cons_zero, List.getElem?_cons_succ, Option.some.injEq] at ho; subst ho
      simp only [push_cast, Nat.reduceAdd, Nat.reduceSub, Nat.reduceMul, Nat.reduceLT, Nat.reduceLeDiff, Nat.reduceEqDiff, Nat.reduceMod, Nat.reduceDiv, Int.reduceAdd, Int.reduceSub, Int.reduceMul, Int.reduceLT, Int.reduceLE, Int.reduceEq, Int.reduceNeg, Int.reduceToNat, reduceIte, reduceCtorEq, Int.reduceBEq, Int.reduceBNe, Bool.true_beq, Bool.false_beq, Bool.true_bne, Bool.false_bne, Bool.not_true, Bool.not_false, usDA, List.flatMap_nil, List.flatMap_cons, List.append_nil, List.nil_append, t12]
      exact ⟨[], rfl, trivial, rfl, upd_self _ _ _, rfl⟩
    · simp only [List.getElem?_toArray, List.getElem?_cons_zero, List.getElem?_cons_succ, Option.some.injEq] at ho; subst ho
      obtain ⟨v9, g9⟩ := hdep 9 (by kernel_rfl)
      replace g9 := g9 46 rfl
      rw [show val 9 = _ from v9] at g9
      simp only [push_cast, Nat.reduceAdd, Nat.reduceSub, Nat.reduceMul, Nat.reduceLT, Nat.reduceLeDiff, Nat.reduceEqDiff, Nat.reduceMod, Nat.reduceDiv, Int.reduceAdd, Int.reduceSub, Int.reduceMul, Int.reduceLT, Int.reduceLE, Int.reduceEq, Int.reduceNeg, Int.reduceToNat, reduceIte, reduceCtorEq, Int.reduceBEq, Int.reduceBNe, Bool.true_beq, Bool.false_beq, Bool.true_bne, Bool.false_bne, Bool.not_true, Bool.not_false, usDA, List.flatMap_nil, List.flatMap_cons, List.append_nil, List.nil_append, g9, y12]
      exact ⟨[], rfl, trivial, rfl, upd_self _ _ _, rfl⟩
    · simp only [List.getElem?_toArray, List.getElem?_cons_zero, List.getElem?_cons_succ, Option.some.injEq] at ho; subst ho
      obtain ⟨-, g8⟩ := hdep 8 (by kernel_rfl)
      replace g8 := g8 45 rfl
      obtain ⟨v10, g10⟩ := hdep 10 (by kernel_rfl)
      replace g10 := g10 47 rfl
      rw [show val 10 = _ from v10] at g10
      have hq := hus 8 (List.mem_singleton.2 rfl)
      simp only [push_cast, Nat.reduceAdd, Nat.reduceSub, Nat.reduceMul, Nat.reduceLT, Nat.reduceLeDiff, Nat.reduceEqDiff, Nat.reduceMod, Nat.reduceDiv, Int.reduceAdd, Int.reduceSub, Int.reduceMul, Int.reduceLT, Int.reduceLE, Int.reduceEq, Int.reduceNeg, Int.reduceToNat, reduceIte, reduceCtorEq, Int.reduceBEq, Int.reduceBNe, Bool.true_beq, Bool.false_beq, Bool.true_bne, Bool.false_bne, Bool.not_true, Bool.not_false, usDA, List.flatMap_nil, List.flatMap_cons, List.append_nil, List.nil_append, g8, g10]
      rw [show List.flatMap mem (usDA 11) = mem 8 by simp [usDA]] at hfr
      refine append_g (e := 58) (sz := 25) (by_ := 56) (m := R.length) (ys := R.flatMap KeyT.cells) hq (by simp only [push_cast, Nat.reduceAdd, Nat.reduceSub, Nat.reduceMul, Nat.reduceLT, Nat.reduceLeDiff, Nat.reduceEqDiff, Nat.reduceMod, Nat.reduceDiv, Int.reduceAdd, Int.reduceSub, Int.reduceMul, Int.reduceLT, Int.reduceLE, Int.reduceEq, Int.reduceNeg, Int.reduceToNat, reduceIte, reduceCtorEq, Int.reduceBEq, Int.reduceBNe, Bool.true_beq, Bool.false_beq, Bool.true_bne, Bool.false_bne, Bool.not_true, Bool.not_false]) ((hrY.app hfr).src (q := 25) (ag := true) (by simp only [push_cast, Nat.reduceAdd, Nat.reduceSub, Nat.reduceMul, Nat.reduceLT, Nat.reduceLeDiff, Nat.reduceEqDiff, Nat.reduceMod, Nat.reduceDiv, Int.reduceAdd, Int.reduceSub, Int.reduceMul, Int.reduceLT, Int.reduceLE, Int.reduceEq, Int.reduceNeg, Int.reduceToNat, reduceIte, reduceCtorEq, Int.reduceBEq, Int.reduceBNe, Bool.true_beq, Bool.false_beq, Bool.true_bne, Bool.false_bne, Bool.not_true, Bool.not_false])) rl ra (by unfold two47; omega) fun v' N' ho' hf' => ⟨N', rfl, ho'.wr.1, ho'.wr.2, ?_, ?_⟩
      · show ∃ p c, upd val 11 v' 11 = _
        rw [upd_self]; exact ho'.slice
      · show OutG _ _ _ _ (upd val 11 v' 11) _
        rw [upd_self]; exact ho'
    · simp only [List.getElem?_toArray, List.getElem?_cons_zero, List.getElem?_cons_succ, Option.some.injEq] at ho; subst ho
      obtain ⟨⟨p5, c5, v5⟩, g5⟩ := hdep 5 (by kernel_rfl)
      replace g5 := g5 42 rfl
      obtain ⟨⟨p11, c11, v11⟩, g11⟩ := hdep 11 (by kernel_rfl)
      replace g11 := g11 48 rfl
      rw [v5] at g5
      rw [v11] at g11
      simp only [push_cast, Nat.reduceAdd, Nat.reduceSub, Nat.reduceMul, Nat.reduceLT, Nat.reduceLeDiff, Nat.reduceEqDiff, Nat.reduceMod, Nat.reduceDiv, Int.reduceAdd, Int.reduceSub, Int.reduceMul, Int.reduceLT, Int.reduceLE, Int.reduceEq, Int.reduceNeg, Int.reduceToNat, reduceIte, reduceCtorEq, Int.reduceBEq, Int.reduceBNe, Bool.true_beq, Bool.false_beq, Bool.true_bne, Bool.false_bne, Bool.not_true, Bool.not_false, usDA, List.flatMap_nil, List.flatMap_cons, List.append_nil, List.nil_append, g5, g11]
      refine ⟨[], rfl, trivial, rfl, ⟨?_, ⟨p5, c5, ?_⟩, p11, c11, ?_⟩, rfl⟩
      · simp [upd, v5, v11]
      · simp [upd, v5]
      · simp [upd, v11]
    · simp only [List.getElem?_toArray, List.getElem?_cons_zero, List.getElem?_cons_succ, Option.some.injEq] at ho; subst ho
      simp only [push_cast, Nat.reduceAdd, Nat.reduceSub, Nat.reduceMul, Nat.reduceLT, Nat.reduceLeDiff, Nat.reduceEqDiff, Nat.reduceMod, Nat.reduceDiv, Int.reduceAdd, Int.reduceSub, Int.reduceMul, Int.reduceLT, Int.reduceLE, Int.reduceEq, Int.reduceNeg, Int.reduceToNat, reduceIte, reduceCtorEq, Int.reduceBEq, Int.reduceBNe, Bool.true_beq, Bool.false_beq, Bool.true_bne, Bool.false_bne, Bool.not_true, Bool.not_false, usDA, List.flatMap_nil, List.flatMap_cons, List.append_nil, List.nil_append]
      intro b hf
      exact ⟨[_], rfl, ⟨trivial, trivial⟩, rfl, ⟨b, upd_self _ _ _⟩, b, upd_self _ _ _, rfl⟩
    · simp only [List.getElem?_toArray, List.getElem?_cons_zero, List.getElem?_cons_succ, Option.some.injEq] at ho; subst ho
      obtain ⟨⟨v12, ⟨p5, c5, v5⟩, p11, c11, v11⟩, g12⟩ := hdep 12 (by kernel_rfl)
      replace g12 := g12 49 rfl
      obtain ⟨-, g13⟩ := hdep 13 (by kernel_rfl)
      replace g13 := g13 13 rfl
      obtain ⟨b13, v13, hN⟩ := hus 13 (List.mem_singleton.2 rfl)
      rw [v13] at g13
      rw [v12] at g12
      simp only [push_cast, Nat.reduceAdd, Nat.reduceSub, Nat.reduceMul, Nat.reduceLT, Nat.reduceLeDiff, Nat.reduceEqDiff, Nat.reduceMod, Nat.reduceDiv, Int.reduceAdd, Int.reduceSub, Int.reduceMul, Int.reduceLT, Int.reduceLE, Int.reduceEq, Int.reduceNeg, Int.reduceToNat, reduceIte, reduceCtorEq, Int.reduceBEq, Int.reduceBNe, Bool.true_beq, Bool.false_beq, Bool.true_bne, Bool.false_bne, Bool.not_true, Bool.not_false, usDA, List.flatMap_nil, List.flatMap_cons, List.append_nil, List.nil_append, g12, g13, hN, v5, v11, List.cons_append]
      exact ⟨[_], rfl, ⟨trivial, trivial⟩, rfl, b13, val 5, val 11, by simp [upd, v13], by simp [upd, v12], by rw [v5, v11]⟩
  · intro val mem hV hQ hap hwr
    obtain ⟨hv12, ⟨p5, k5, v5⟩, p11, k11, v11⟩ := hV 12 (by decide)
    have hq5 := hQ 5 (by decide)
    have hq11 := hQ 11 (by decide)
    obtain ⟨b13, va, vb, v13, hva, hN⟩ := hQ 14 (by decide)
    have hv12 : val 12 = .agg #[val 5, val 11] := hv12
    rw [hva] at hv12
    injection hv12 with hv12
    obtain ⟨rfl, rfl⟩ : va = val 5 ∧ vb = val 11 := by simpa using hv12
    clear hv12 hva hV hQ
    replace v5 : val 5 = _ := v5
    replace v11 : val 11 = _ := v11
    rw [show List.flatMap mem [5, 11, 14] ++ (⟨b12, 0, .cel 30, [.slice p1 R.length c1, .slice p2 W'.length c2]⟩ :: ⟨b5, 0, .cel 27, [u0, u1]⟩ :: M2) = mem 5 ++ (mem 11 ++ (mem 14 ++ (⟨b12, 0, .cel 30, [.slice p1 R.length c1, .slice p2 W'.length c2]⟩ :: ⟨b5, 0, .cel 27, [u0, u1]⟩ :: M2))) by simp] at hap ⊢
    have f5 : freshN (mem 5) (mem 11 ++ (mem 14 ++ (⟨b12, 0, .cel 30, [.slice p1 R.length c1, .slice p2 W'.length c2]⟩ :: ⟨b5, 0, .cel 27, [u0, u1]⟩ :: M2))) := freshN_apart hap hq5.wr.1
    have r5 : LiR KeyT.cells 25 (mem 5 ++ (mem 11 ++ (mem 14 ++ (⟨b12, 0, .cel 30, [.slice p1 R.length c1, .slice p2 W'.length c2]⟩ :: ⟨b5, 0, .cel 27, [u0, u1]⟩ :: M2)))) (R ++ W') (val 5) := hq5.liR (by rw [List.length_append]) (by rw [keyC_app]) _
    have r11 : LiR KeyT.cells 25 (mem 5 ++ (mem 11 ++ (mem 14 ++ (⟨b12, 0, .cel 30, [.slice p1 R.length c1, .slice p2 W'.length c2]⟩ :: ⟨b5, 0, .cel 27, [u0, u1]⟩ :: M2)))) (W' ++ R) (val 11) := (hq11.liR (by rw [List.length_append]) (by rw [keyC_app]) _).app f5
    obtain ⟨MM, hMM⟩ : ∃ MM, MM = mem 5 ++ (mem 11 ++ (mem 14 ++ (⟨b12, 0, .cel 30, [.slice p1 R.length c1, .slice p2 W'.length c2]⟩ :: ⟨b5, 0, .cel 27, [u0, u1]⟩ :: M2))) := ⟨_, rfl⟩
    have hmMM : marksOf MM = [] := by rw [hMM, hN]; simp only [marks_append, hq5.wr.2, hq11.wr.2, marksOf, hmM2, List.nil_append]
    have hA : freshN (mem 5 ++ (mem 11 ++ mem 14)) (⟨b12, 0, .cel 30, [.slice p1 R.length c1, .slice p2 W'.length c2]⟩ :: ⟨b5, 0, .cel 27, [u0, u1]⟩ :: M2) := freshN_apart (by rw [List.append_assoc, List.append_assoc]; exact hap) (allWr_app hq5.wr.1 (allWr_app hq11.wr.1 (by rw [hN]; exact ⟨trivial, trivial⟩)))
    have hB : freshN (mem 5 ++ mem 11) (mem 14 ++ (⟨b12, 0, .cel 30, [.slice p1 R.length c1, .slice p2 W'.length c2]⟩ :: ⟨b5, 0, .cel 27, [u0, u1]⟩ :: M2)) := freshN_apart (by rw [List.append_assoc]; exact hap) (allWr_app hq5.wr.1 hq11.wr.1)
    have eA : MM = (mem 5 ++ (mem 11 ++ mem 14)) ++ (⟨b12, 0, .cel 30, [.slice p1 R.length c1, .slice p2 W'.length c2]⟩ :: ⟨b5, 0, .cel 27, [u0, u1]⟩ :: M2) := by rw [hMM, List.append_assoc, List.append_assoc]
    have eB : MM = (mem 5 ++ mem 11) ++ (mem 14 ++ (⟨b12, 0, .cel 30, [.slice p1 R.length c1, .slice p2 W'.length c2]⟩ :: ⟨b5, 0, .cel 27, [u0, u1]⟩ :: M2)) := by rw [hMM, List.append_assoc]
    have m12 : findE MM b12 = some ⟨b12, 0, .cel 30, [.slice p1 R.length c1, .slice p2 W'.length c2]⟩ := by rw [eA, findE_freshN hA f12]; exact f12
    have m13 : findE MM b13 = some ⟨b13, 0, .cel 30, [val 5, val 11]⟩ := by
      have h14 : findE (mem 14 ++ (⟨b12, 0, .cel 30, [.slice p1 R.length c1, .slice p2 W'.length c2]⟩ :: ⟨b5, 0, .cel 27, [u0, u1]⟩ :: M2)) b13 = some ⟨b13, 0, .cel 30, [val 5, val 11]⟩ := by rw [hN]; simp [findE]
      rw [eB, findE_freshN hB h14]; exact h14
    have hrM : LiR KeyT.cells 25 MM R (.slice p1 R.length c1) := by rw [eA]; exact hrX.app hA
    have hwM : LiR KeyT.cells 25 MM W' (.slice p2 W'.length c2) := by rw [eA]; exact hwX.app hA
    rw [← hMM] at r5 r11 ⊢
    obtain ⟨nn, hnn⟩ : ∃ n, n = declI R W' := ⟨_, rfl⟩
    have htw : declI (R ++ W') (W' ++ R) = nn := by rw [hnn]; exact declI_twice R W'
    have hlow := declI_low o1 o2
    have hhigh := declI_high R W'
    rw [← hnn] at hlow hhigh
    simp only [push_cast, Nat.reduceAdd, Nat.reduceSub, Nat.reduceMul, Nat.reduceLT, Nat.reduceLeDiff, Nat.reduceEqDiff, Nat.reduceMod, Nat.reduceDiv, Int.reduceAdd, Int.reduceSub, Int.reduceMul, Int.reduceLT, Int.reduceLE, Int.reduceEq, Int.reduceNeg, Int.reduceToNat, reduceIte, reduceCtorEq, Int.reduceBEq, Int.reduceBNe, Bool.true_beq, Bool.false_beq, Bool.true_bne, Bool.false_bne, Bool.not_true, Bool.not_false]
    refine regO gQ2_ok ?_
    simp only [push_cast, Nat.reduceAdd, Nat.reduceSub, Nat.reduceMul, Nat.reduceLT, Nat.reduceLeDiff, Nat.reduceEqDiff, Nat.reduceMod, Nat.reduceDiv, Int.reduceAdd, Int.reduceSub, Int.reduceMul, Int.reduceLT, Int.reduceLE, Int.reduceEq, Int.reduceNeg, Int.reduceToNat, reduceIte, reduceCtorEq, Int.reduceBEq, Int.reduceBNe, Bool.true_beq, Bool.false_beq, Bool.true_bne, Bool.false_bne, Bool.not_true, Bool.not_false, m12]
    refine useP [] (M := MM) (gdeclA_R hrM hwM (by omega) (by omega)) trivial ?_
    rw [← hnn]
    have hdt := gdeclA_R (M := MM) (vr := val 5) (vw := val 11) r5 r11 (by rw [List.length_append]; omega) (by rw [List.length_append]; omega)
    rw [htw] at hdt
    simp only [push_cast, Nat.reduceAdd, Nat.reduceSub, Nat.reduceMul, Nat.reduceLT, Nat.reduceLeDiff, Nat.reduceEqDiff, Nat.reduceMod, Nat.reduceDiv, Int.reduceAdd, Int.reduceSub, Int.reduceMul, Int.reduceLT, Int.reduceLE, Int.reduceEq, Int.reduceNeg, Int.reduceToNat, reduceIte, reduceCtorEq, Int.reduceBEq, Int.reduceBNe, Bool.true_beq, Bool.false_beq, Bool.true_bne, Bool.false_bne, Bool.not_true, Bool.not_false]
    obtain ⟨mx, hmx⟩ : ∃ m, m = max R.length W'.length := ⟨_, rfl⟩
    have x1 : (if (R.length : Int) < (W'.length : Int) then (W'.length : Int) else (R.length : Int)) = (mx : Int) := by split <;> omega
    have x2 : (if R.length < W'.length then (W'.length : Int) else (R.length : Int)) = (mx : Int) := by split <;> omega
    have x3 : 1900 * (mx : Int) ≤ (nn : Int) := by omega
    have x4 : (nn : Int) ≤ 2400 * ((R.length : Int) + (W'.length : Int)) := by omega
    have x5 : (g : Int) + 6 * (u : Int) = ((g + 6 * u : Nat) : Int) := by omega
    have x6 : 3 * (u : Int) ≤ 3 * (uu : Int) := by omega
    have y3 : 1900 * mx ≤ nn := by omega
    have y4 : nn ≤ 2400 * (R.length + W'.length) := by omega
    have y6 : 3 * u ≤ 3 * uu := by omega
    have lmx : mx ≤ 15 := by omega
    clear hmx
    have hcat : catB x y = some (.string xy) := by
      have : IntKind.i64.max = 9223372036854775807 := rfl
      unfold catB
      rw [if_neg (by omega), hxy]
    refine regC gQ2_ok 12 ?_
    simp only [push_cast, Nat.reduceAdd, Nat.reduceSub, Nat.reduceMul, Nat.reduceLT, Nat.reduceLeDiff, Nat.reduceEqDiff, Nat.reduceMod, Nat.reduceDiv, Int.reduceAdd, Int.reduceSub, Int.reduceMul, Int.reduceLT, Int.reduceLE, Int.reduceEq, Int.reduceNeg, Int.reduceToNat, reduceIte, reduceCtorEq, Int.reduceBEq, Int.reduceBNe, Bool.true_beq, Bool.false_beq, Bool.true_bne, Bool.false_bne, Bool.not_true, Bool.not_false, hcat, sxy, wrap_i64' (show -9223372036854775808 ≤ 21000 + (a : Int) ∧ 21000 + (a : Int) ≤ 9223372036854775807 by omega), wrap_i64' (show -9223372036854775808 ≤ 21000 + (a : Int) + (b : Int) ∧ 21000 + (a : Int) + (b : Int) ≤ 9223372036854775807 by omega), beq_self_eq_true]
    refine cutK 12 ?_
    simp only [push_cast, Nat.reduceAdd, Nat.reduceSub, Nat.reduceMul, Nat.reduceLT, Nat.reduceLeDiff, Nat.reduceEqDiff, Nat.reduceMod, Nat.reduceDiv, Int.reduceAdd, Int.reduceSub, Int.reduceMul, Int.reduceLT, Int.reduceLE, Int.reduceEq, Int.reduceNeg, Int.reduceToNat, reduceIte, reduceCtorEq, Int.reduceBEq, Int.reduceBNe, Bool.true_beq, Bool.false_beq, Bool.true_bne, Bool.false_bne, Bool.not_true, Bool.not_false, sxt, sx, ← hg, wrap_i64' (show -9223372036854775808 ≤ 21000 + (a : Int) + 32000 ∧ 21000 + (a : Int) + 32000 ≤ 9223372036854775807 by omega), wrap_i64' (show -9223372036854775808 ≤ 21000 + (a : Int) + 32000 + (g : Int) ∧ 21000 + (a : Int) + 32000 + (g : Int) ≤ 9223372036854775807 by omega), beq_self_eq_true]
    refine cutK 6 ?_
    replace v13 : val 13 = _ := v13
    simp only [push_cast, Nat.reduceAdd, Nat.reduceSub, Nat.reduceMul, Nat.reduceLT, Nat.reduceLeDiff, Nat.reduceEqDiff, Nat.reduceMod, Nat.reduceDiv, Int.reduceAdd, Int.reduceSub, Int.reduceMul, Int.reduceLT, Int.reduceLE, Int.reduceEq, Int.reduceNeg, Int.reduceToNat, reduceIte, reduceCtorEq, Int.reduceBEq, Int.reduceBNe, Bool.true_beq, Bool.false_beq, Bool.true_bne, Bool.false_bne, Bool.not_true, Bool.not_false, v13, m13]
    refine useP [] (M := MM) hdt trivial ?_
    simp only [push_cast, Nat.reduceAdd, Nat.reduceSub, Nat.reduceMul, Nat.reduceLT, Nat.reduceLeDiff, Nat.reduceEqDiff, Nat.reduceMod, Nat.reduceDiv, Int.reduceAdd, Int.reduceSub, Int.reduceMul, Int.reduceLT, Int.reduceLE, Int.reduceEq, Int.reduceNeg, Int.reduceToNat, reduceIte, reduceCtorEq, Int.reduceBEq, Int.reduceBNe, Bool.true_beq, Bool.false_beq, Bool.true_bne, Bool.false_bne, Bool.not_true, Bool.not_false, beq_self_eq_true]
    refine cutK 12 ?_
    simp only [push_cast, Nat.reduceAdd, Nat.reduceSub, Nat.reduceMul, Nat.reduceLT, Nat.reduceLeDiff, Nat.reduceEqDiff, Nat.reduceMod, Nat.reduceDiv, Int.reduceAdd, Int.reduceSub, Int.reduceMul, Int.reduceLT, Int.reduceLE, Int.reduceEq, Int.reduceNeg, Int.reduceToNat, reduceIte, reduceCtorEq, Int.reduceBEq, Int.reduceBNe, Bool.true_beq, Bool.false_beq, Bool.true_bne, Bool.false_bne, Bool.not_true, Bool.not_false, m12, x1, x2, wrap_i64' (show -9223372036854775808 ≤ 1900 * (mx : Int) ∧ 1900 * (mx : Int) ≤ 9223372036854775807 by omega), x3, y3]
    refine cutK 12 ?_
    simp only [push_cast, Nat.reduceAdd, Nat.reduceSub, Nat.reduceMul, Nat.reduceLT, Nat.reduceLeDiff, Nat.reduceEqDiff, Nat.reduceMod, Nat.reduceDiv, Int.reduceAdd, Int.reduceSub, Int.reduceMul, Int.reduceLT, Int.reduceLE, Int.reduceEq, Int.reduceNeg, Int.reduceToNat, reduceIte, reduceCtorEq, Int.reduceBEq, Int.reduceBNe, Bool.true_beq, Bool.false_beq, Bool.true_bne, Bool.false_bne, Bool.not_true, Bool.not_false, m12, wrap_i64' (show -9223372036854775808 ≤ (R.length : Int) + (W'.length : Int) ∧ (R.length : Int) + (W'.length : Int) ≤ 9223372036854775807 by omega), wrap_i64' (show -9223372036854775808 ≤ 2400 * ((R.length : Int) + (W'.length : Int)) ∧ 2400 * ((R.length : Int) + (W'.length : Int)) ≤ 9223372036854775807 by omega), x4, y4]
    refine cutK 13 ?_
    simp only [push_cast, Nat.reduceAdd, Nat.reduceSub, Nat.reduceMul, Nat.reduceLT, Nat.reduceLeDiff, Nat.reduceEqDiff, Nat.reduceMod, Nat.reduceDiv, Int.reduceAdd, Int.reduceSub, Int.reduceMul, Int.reduceLT, Int.reduceLE, Int.reduceEq, Int.reduceNeg, Int.reduceToNat, reduceIte, reduceCtorEq, Int.reduceBEq, Int.reduceBNe, Bool.true_beq, Bool.false_beq, Bool.true_bne, Bool.false_bne, Bool.not_true, Bool.not_false, g8, ← hg, ← hu, wrap_i64' (show -9223372036854775808 ≤ (g : Int) + 6 * (u : Int) ∧ (g : Int) + 6 * (u : Int) ≤ 9223372036854775807 by omega), beq_self_eq_true]
    refine cutO ?_
    simp only [push_cast, Nat.reduceAdd, Nat.reduceSub, Nat.reduceMul, Nat.reduceLT, Nat.reduceLeDiff, Nat.reduceEqDiff, Nat.reduceMod, Nat.reduceDiv, Int.reduceAdd, Int.reduceSub, Int.reduceMul, Int.reduceLT, Int.reduceLE, Int.reduceEq, Int.reduceNeg, Int.reduceToNat, reduceIte, reduceCtorEq, Int.reduceBEq, Int.reduceBNe, Bool.true_beq, Bool.false_beq, Bool.true_bne, Bool.false_bne, Bool.not_true, Bool.not_false, hcat, ← hu, ← huu, x6, y6]
end Go.Proofs.YtfioapldbajpmaaDoor
