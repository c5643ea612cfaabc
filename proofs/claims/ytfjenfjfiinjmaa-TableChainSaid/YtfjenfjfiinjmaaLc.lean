/- Lc: TableChain: the walk, and the plain law. -/
import Derived.Test.YtfjenfjfiinjmaaLb
set_option linter.unusedSimpArgs false
set_option linter.unusedVariables false
namespace Go.Ev
theorem lk_map (f : W → W) : ∀ (l : List Sl) (k : W), lk (l.map fun x => ⟨x.key, f x.key⟩) k = (lk l k).map fun _ => f k
  | [], k => rfl
  | x :: r, k => by
    rw [List.map_cons, lk_cons, lk_cons, lk_map f r k]
    by_cases h : x.key = k
    · subst h; simp
    · simp [h]
theorem srt_map (f : W → W) {l : List Sl} (h : Srt l) : Srt (l.map fun x => ⟨x.key, f x.key⟩) := by
  unfold Srt at *
  rw [List.pairwise_map]
  exact h
theorem diff_back {a b : List Sl} (ha : Srt a) (hb : Srt b) : diffL b a = (diffL a b).map fun x => ⟨x.key, getW a x.key⟩ := by
  refine srt_ext (diffL_srt hb ha) (srt_map _ (diffL_srt ha hb)) fun k => ?_
  rw [lk_map (getW a), diffL_lk hb ha, diffL_lk ha hb]
  by_cases h : getW a k = getW b k
  · rw [if_pos h, if_pos h.symm]; rfl
  · rw [if_neg h, if_neg (fun e => h e.symm)]; rfl
theorem diff_val {a b : List Sl} (ha : Srt a) (hb : Srt b) {x : Sl} (hx : x ∈ diffL a b) : x.val = getW b x.key := by
  have h := lk_of_mem (diffL_srt ha hb) hx
  rw [diffL_lk ha hb] at h
  split at h
  · cases h
  · exact (Option.some.inj h).symm
end Go.Ev
namespace Go.Proofs.Ytfjenfjfiinjmaa
open Go Go.Ev Go.Proofs
set_option maxRecDepth 100000
set_option maxHeartbeats 4000000
theorem tableChain_ok {H : Hp} {one two three : List (Int × Int)} {v u t : Value} (hm : marksOf H = []) (h1 : PrR H one v) (h2 : PrR H two u) (h3 : PrR H three t) (b1 : rawOk one) (b2 : rawOk two) (b3 : rawOk three) :
    CallsV Try.prog 7 [v, u, t] H (Ret0 (.bool true)) := by
  have ra := slotsL_ri one
  have rb := slotsL_ri two
  have rc := slotsL_ri three
  have la := (slotsL_len false one).1
  have lb := (slotsL_len false two).1
  have lc := (slotsL_len false three).1
  obtain ⟨a, ea⟩ : ∃ a, a = slotsL false (one.take 20) [] := ⟨_, rfl⟩
  obtain ⟨b, eb⟩ : ∃ b, b = slotsL false (two.take 20) [] := ⟨_, rfl⟩
  obtain ⟨c, ec⟩ : ∃ c, c = slotsL false (three.take 20) [] := ⟨_, rfl⟩
  rw [← ea] at ra la
  rw [← eb] at rb lb
  rw [← ec] at rc lc
  have ljab := (joinS_bound a b).2
  have ljbc := (joinS_bound b c).2
  have hdab := diffL_srt ra.srt rb.srt
  have hdbc := diffL_srt rb.srt rc.srt
  have hbk := diff_back ra.srt rb.srt
  have hval := fun x => diff_val (x := x) ra.srt rb.srt
  refine callsO gD_ok Try.mix Try.pl7 Try.func7 rfl Try.ntmps7 Try.results7 rfl (by first | rfl | assumption) (Nat.le_of_ble_eq_true rfl) (by kernel_rfl) ?_
  simp only [push_cast, Nat.reduceAdd, Nat.reduceSub, Nat.reduceMul, Nat.reduceLT, Nat.reduceLeDiff, Nat.reduceEqDiff, Nat.reduceMod, Nat.reduceDiv, Int.reduceAdd, Int.reduceSub, Int.reduceMul, Int.reduceLT, Int.reduceLE, Int.reduceEq, Int.reduceNeg, Int.reduceToNat, reduceIte, reduceCtorEq]
  refine awake_ok.pure trivial ?_
  simp only [push_cast, Nat.reduceAdd, Nat.reduceSub, Nat.reduceMul, Nat.reduceLT, Nat.reduceLeDiff, Nat.reduceEqDiff, Nat.reduceMod, Nat.reduceDiv, Int.reduceAdd, Int.reduceSub, Int.reduceMul, Int.reduceLT, Int.reduceLE, Int.reduceEq, Int.reduceNeg, Int.reduceToNat, reduceIte, reduceCtorEq]
  refine slots_use hm h1 b1.1 b1.2 ?_
  rw [← ea]
  intro u1 H1 x1 s1
  simp only [push_cast, Nat.reduceAdd, Nat.reduceSub, Nat.reduceMul, Nat.reduceLT, Nat.reduceLeDiff, Nat.reduceEqDiff, Nat.reduceMod, Nat.reduceDiv, Int.reduceAdd, Int.reduceSub, Int.reduceMul, Int.reduceLT, Int.reduceLE, Int.reduceEq, Int.reduceNeg, Int.reduceToNat, reduceIte, reduceCtorEq]
  refine slots_use x1.marks (x1.pr h2) b2.1 b2.2 ?_
  rw [← eb]
  intro u2 H2 x2 s2
  simp only [push_cast, Nat.reduceAdd, Nat.reduceSub, Nat.reduceMul, Nat.reduceLT, Nat.reduceLeDiff, Nat.reduceEqDiff, Nat.reduceMod, Nat.reduceDiv, Int.reduceAdd, Int.reduceSub, Int.reduceMul, Int.reduceLT, Int.reduceLE, Int.reduceEq, Int.reduceNeg, Int.reduceToNat, reduceIte, reduceCtorEq]
  refine slots_use x2.marks (x2.pr (x1.pr h3)) b3.1 b3.2 ?_
  rw [← ec]
  intro u3 H3 x3 s3
  simp only [push_cast, Nat.reduceAdd, Nat.reduceSub, Nat.reduceMul, Nat.reduceLT, Nat.reduceLeDiff, Nat.reduceEqDiff, Nat.reduceMod, Nat.reduceDiv, Int.reduceAdd, Int.reduceSub, Int.reduceMul, Int.reduceLT, Int.reduceLE, Int.reduceEq, Int.reduceNeg, Int.reduceToNat, reduceIte, reduceCtorEq]
  have s1 := x3.sl (x2.sl s1)
  have s2 := x3.sl s2
  refine diff_use x3.marks s1 s2 ?_
  rw [diffR_ok ra rb (by omega)]
  intro u4 H4 x4 s4
  replace s4 : SlR H4 (diffL a b) u4 := s4
  simp only [push_cast, Nat.reduceAdd, Nat.reduceSub, Nat.reduceMul, Nat.reduceLT, Nat.reduceLeDiff, Nat.reduceEqDiff, Nat.reduceMod, Nat.reduceDiv, Int.reduceAdd, Int.reduceSub, Int.reduceMul, Int.reduceLT, Int.reduceLE, Int.reduceEq, Int.reduceNeg, Int.reduceToNat, reduceIte, reduceCtorEq]
  refine diff_use x4.marks (x4.sl s2) (x4.sl s3) ?_
  rw [diffR_ok rb rc (by omega)]
  intro u5 H5 x5 s5
  replace s5 : SlR H5 (diffL b c) u5 := s5
  simp only [push_cast, Nat.reduceAdd, Nat.reduceSub, Nat.reduceMul, Nat.reduceLT, Nat.reduceLeDiff, Nat.reduceEqDiff, Nat.reduceMod, Nat.reduceDiv, Int.reduceAdd, Int.reduceSub, Int.reduceMul, Int.reduceLT, Int.reduceLE, Int.reduceEq, Int.reduceNeg, Int.reduceToNat, reduceIte, reduceCtorEq]
  have y5 := x4.trans x5
  refine merge_use x5.marks (y5.sl s1) (x5.sl s4) ?_
  rw [mergeR_ok ra hdab (by omega), merge_diff ra rb]
  intro u6 H6 x6 s6
  replace s6 : SlR H6 b u6 := s6
  simp only [push_cast, Nat.reduceAdd, Nat.reduceSub, Nat.reduceMul, Nat.reduceLT, Nat.reduceLeDiff, Nat.reduceEqDiff, Nat.reduceMod, Nat.reduceDiv, Int.reduceAdd, Int.reduceSub, Int.reduceMul, Int.reduceLT, Int.reduceLE, Int.reduceEq, Int.reduceNeg, Int.reduceToNat, reduceIte, reduceCtorEq]
  refine merge_use x6.marks s6 (x6.sl s5) ?_
  rw [mergeR_ok rb hdbc (by omega), merge_diff rb rc]
  intro u7 H7 x7 s7
  replace s7 : SlR H7 c u7 := s7
  simp only [push_cast, Nat.reduceAdd, Nat.reduceSub, Nat.reduceMul, Nat.reduceLT, Nat.reduceLeDiff, Nat.reduceEqDiff, Nat.reduceMod, Nat.reduceDiv, Int.reduceAdd, Int.reduceSub, Int.reduceMul, Int.reduceLT, Int.reduceLE, Int.reduceEq, Int.reduceNeg, Int.reduceToNat, reduceIte, reduceCtorEq]
  have y7 := (y5.trans x6).trans x7
  refine diff_use x7.marks (y7.sl s2) (y7.sl s1) ?_
  rw [diffR_ok rb ra (by omega)]
  intro u8 H8 x8 s8
  replace s8 : SlR H8 (diffL b a) u8 := s8
  have y8 := y7.trans x8
  have s1 := y8.sl s1
  have s2 := y8.sl s2
  have s3 := y8.sl s3
  have s4 := x8.sl (x7.sl (x6.sl (x5.sl s4)))
  have s7 := x8.sl s7
  have m8 := x8.marks
  have hln : (diffL b a).length = (diffL a b).length := by rw [hbk, List.length_map]
  generalize hab : diffL a b = ab at *
  generalize hba : diffL b a = ba at *
  simp only [push_cast, Nat.reduceAdd, Nat.reduceSub, Nat.reduceMul, Nat.reduceLT, Nat.reduceLeDiff, Nat.reduceEqDiff, Nat.reduceMod, Nat.reduceDiv, Int.reduceAdd, Int.reduceSub, Int.reduceMul, Int.reduceLT, Int.reduceLE, Int.reduceEq, Int.reduceNeg, Int.reduceToNat, reduceIte, reduceCtorEq, bne_self_eq_false]
  refine same_use s7 s3 (by omega) (by omega) ?_
  rw [decide_eq_true rfl]
  rcases s4.open with ⟨e4, p4, c4, rfl⟩ | ⟨q4, o4, c4, n4, rfl, f4, g4⟩
  · obtain ⟨p8, c8, rfl, _⟩ := id s8
    rw [hln, e4]
    simp only [push_cast, Nat.reduceAdd, Nat.reduceSub, Nat.reduceMul, Nat.reduceLT, Nat.reduceLeDiff, Nat.reduceEqDiff, Nat.reduceMod, Nat.reduceDiv, Int.reduceAdd, Int.reduceSub, Int.reduceMul, Int.reduceLT, Int.reduceLE, Int.reduceEq, Int.reduceNeg, Int.reduceToNat, reduceIte, reduceCtorEq, List.length_nil, bne_self_eq_false]
    refine unrollO gD_ok (pl := Try.pl7) Try.mix 1 (by kernel_rfl) ?_
    simp only [push_cast, Nat.reduceAdd, Nat.reduceSub, Nat.reduceMul, Nat.reduceLT, Nat.reduceLeDiff, Nat.reduceEqDiff, Nat.reduceMod, Nat.reduceDiv, Int.reduceAdd, Int.reduceSub, Int.reduceMul, Int.reduceLT, Int.reduceLE, Int.reduceEq, Int.reduceNeg, Int.reduceToNat, reduceIte, reduceCtorEq, Int.lt_irrefl]
  rcases s8.open with ⟨e8, p8, c8, rfl⟩ | ⟨q8, o8, c8, n8, rfl, f8, g8⟩
  · have h0 : ab.length = 0 := by rw [← hln, e8]; rfl
    rw [h0]
    simp only [push_cast, Nat.reduceAdd, Nat.reduceSub, Nat.reduceMul, Nat.reduceLT, Nat.reduceLeDiff, Nat.reduceEqDiff, Nat.reduceMod, Nat.reduceDiv, Int.reduceAdd, Int.reduceSub, Int.reduceMul, Int.reduceLT, Int.reduceLE, Int.reduceEq, Int.reduceNeg, Int.reduceToNat, reduceIte, reduceCtorEq, bne_self_eq_false]
    refine unrollO gD_ok (pl := Try.pl7) Try.mix 1 (by kernel_rfl) ?_
    simp only [push_cast, Nat.reduceAdd, Nat.reduceSub, Nat.reduceMul, Nat.reduceLT, Nat.reduceLeDiff, Nat.reduceEqDiff, Nat.reduceMod, Nat.reduceDiv, Int.reduceAdd, Int.reduceSub, Int.reduceMul, Int.reduceLT, Int.reduceLE, Int.reduceEq, Int.reduceNeg, Int.reduceToNat, reduceIte, reduceCtorEq, Int.lt_irrefl]
  rw [hln]
  simp only [push_cast, Nat.reduceAdd, Nat.reduceSub, Nat.reduceMul, Nat.reduceLT, Nat.reduceLeDiff, Nat.reduceEqDiff, Nat.reduceMod, Nat.reduceDiv, Int.reduceAdd, Int.reduceSub, Int.reduceMul, Int.reduceLT, Int.reduceLE, Int.reduceEq, Int.reduceNeg, Int.reduceToNat, reduceIte, reduceCtorEq, bne_self_eq_false]
  refine loopO gD_ok (pl := Try.pl7) Try.mix (X := Nat)
    (fun k => ([(7, .bool true), (8, u1), (9, u2), (11, .slice (some ⟨q4, o4, none⟩) ab.length c4), (19, .slice (some ⟨q8, o8, none⟩) ab.length c8), (21, .int .i64 k)], H8))
    (fun k => k ≤ ab.length) (fun k => ab.length - k) 0 ?_ ?_ (by kernel_rfl) ?_
  · exact Nat.zero_le _
  · simp only [push_cast, Nat.reduceAdd, Nat.reduceSub, Nat.reduceMul, Nat.reduceLT, Nat.reduceLeDiff, Nat.reduceEqDiff, Nat.reduceMod, Nat.reduceDiv, Int.reduceAdd, Int.reduceSub, Int.reduceMul, Int.reduceLT, Int.reduceLE, Int.reduceEq, Int.reduceNeg, Int.reduceToNat, reduceIte, reduceCtorEq, m8]
  · rintro k hk
    dsimp only at hk ⊢
    rcases Nat.lt_or_ge k ab.length with hlt | hge
    · obtain ⟨x, hx⟩ : ∃ x, ab[k]? = some x := ⟨ab[k], List.getElem?_eq_getElem hlt⟩
      have hy : ba[k]? = some ⟨x.key, getW a x.key⟩ := by rw [hbk, List.getElem?_map, hx]; rfl
      have h4 := g4 k x hx
      have h8 := g8 k _ hy
      have hv := hval x (List.mem_of_getElem? hx)
      obtain ⟨Hb, hb1, hb2⟩ := s2.h
      obtain ⟨Ha, ha1, ha2⟩ := s1.h
      simp only [push_cast, Nat.reduceAdd, Nat.reduceSub, Nat.reduceMul, Nat.reduceLT, Nat.reduceLeDiff, Nat.reduceEqDiff, Nat.reduceMod, Nat.reduceDiv, Int.reduceAdd, Int.reduceSub, Int.reduceMul, Int.reduceLT, Int.reduceLE, Int.reduceEq, Int.reduceNeg, Int.reduceToNat, reduceIte, reduceCtorEq, hlt, f4, f8, h4, h8, decide_true]
      refine TakeV.mk hb2 (get_ok hb1 (by omega)) ?_
      simp only [push_cast, Nat.reduceAdd, Nat.reduceSub, Nat.reduceMul, Nat.reduceLT, Nat.reduceLeDiff, Nat.reduceEqDiff, Nat.reduceMod, Nat.reduceDiv, Int.reduceAdd, Int.reduceSub, Int.reduceMul, Int.reduceLT, Int.reduceLE, Int.reduceEq, Int.reduceNeg, Int.reduceToNat, reduceIte, reduceCtorEq, hlt, f4, f8, h4, h8, hv, decide_true]
      refine TakeV.mk ha2 (get_ok ha1 (by omega)) ?_
      simp only [push_cast, Nat.reduceAdd, Nat.reduceSub, Nat.reduceMul, Nat.reduceLT, Nat.reduceLeDiff, Nat.reduceEqDiff, Nat.reduceMod, Nat.reduceDiv, Int.reduceAdd, Int.reduceSub, Int.reduceMul, Int.reduceLT, Int.reduceLE, Int.reduceEq, Int.reduceNeg, Int.reduceToNat, reduceIte, reduceCtorEq, hlt, f4, f8, h4, h8, hv, decide_true, wrap_i64' (show -9223372036854775808 ≤ (k : Int) + 1 ∧ (k : Int) + 1 ≤ 9223372036854775807 by omega)]
      exact ⟨k + 1, hlt, by omega, rfl⟩
    · have e2 : ¬ k < ab.length := by omega
      simp only [push_cast, Nat.reduceAdd, Nat.reduceSub, Nat.reduceMul, Nat.reduceLT, Nat.reduceLeDiff, Nat.reduceEqDiff, Nat.reduceMod, Nat.reduceDiv, Int.reduceAdd, Int.reduceSub, Int.reduceMul, Int.reduceLT, Int.reduceLE, Int.reduceEq, Int.reduceNeg, Int.reduceToNat, reduceIte, reduceCtorEq, e2]
end Go.Proofs.Ytfjenfjfiinjmaa
