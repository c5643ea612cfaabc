/- Ti: the contracts where more is known; awake. -/
import Derived.Test.YtfjenfjfiinjmaaTh
set_option linter.unusedSimpArgs false
set_option linter.unusedVariables false
namespace Go.Ev
/-- H' has all that can be read in H -/
structure Ext (H H' : Hp) : Prop where
  marks : marksOf H' = []
  keep : ∀ b o n cs, cellsAt H b o n = some cs → cellsAt H' b o n = some cs
theorem Ext.sl {H H' : Hp} (h : Ext H H') {l : List Sl} {v : Value} (hs : SlR H l v) : SlR H' l v := by
  obtain ⟨p, c, rfl, h1 | ⟨b, o, rfl, h1⟩⟩ := hs
  · exact ⟨p, c, rfl, .inl h1⟩
  · exact ⟨_, c, rfl, .inr ⟨b, o, rfl, h.keep _ _ _ _ h1⟩⟩
theorem Ext.trans {H H' H'' : Hp} (h : Ext H H') (h' : Ext H' H'') : Ext H H'' := ⟨h'.marks, fun b o n cs hc => h'.keep _ _ _ _ (h.keep _ _ _ _ hc)⟩
theorem Ext.refl {H : Hp} (hm : marksOf H = []) : Ext H H := ⟨hm, fun _ _ _ _ h => h⟩
theorem Ext.cons {H : Hp} {e : Ent} (hm : marksOf H = []) (he : marksOf [e] = []) (hf : fresh e.blk H) : Ext H (e :: H) := by
  refine ⟨by rw [show e :: H = [e] ++ H from rfl, marks_append, he, hm]; rfl, fun b o n cs h => ?_⟩
  obtain ⟨e', he'⟩ := cellsAt_find h
  have := (fresh_find hf he').2
  unfold cellsAt at h ⊢
  simp only [findE, if_neg this]
  exact h
theorem Ext.app {H : Hp} (hm : marksOf H = []) : ∀ {N : Hp}, marksOf N = [] → freshN N H → (N.Pairwise fun e f => e.blk ≠ f.blk) → Ext H (N ++ H)
  | [], _, _, _ => .refl hm
  | e :: r, hN, hf, hp => by
    obtain ⟨h1, h2⟩ := List.pairwise_cons.1 hp
    have hN' : marksOf [e] = [] ∧ marksOf r = [] := by
      rw [show e :: r = [e] ++ r from rfl, marks_append] at hN
      exact List.append_eq_nil_iff.1 hN
    have := Ext.app hm hN'.2 hf.2 h2
    refine this.trans ⟨by rw [marks_append, hN, hm]; rfl, fun b o n cs h => ?_⟩
    obtain ⟨e', he'⟩ := cellsAt_find h
    have : ¬ b = e.blk := by
      intro e0
      subst e0
      obtain ⟨hm', hb'⟩ := findE_mem he'
      rcases List.mem_append.1 hm' with hx | hx
      · exact h1 e' hx hb'.symm
      · exact findE_fresh hf.1 e' hx hb'
    unfold cellsAt at h ⊢
    simp only [findE, List.cons_append, if_neg this]
    exact h
theorem OutS.ext {e : Nat} {l : List Sl} {v : Value} {N H : Hp} (h : OutS e l v N) (hm : marksOf H = []) (hf : freshN N H) : Ext H (N ++ H) ∧ SlR (N ++ H) l v :=
  ⟨.app hm h.wr.2 hf h.pair, h.r⟩
/-- pairs that can be read -/
def PrR (H : Hp) (l : List (Int × Int)) (v : Value) : Prop := ∃ p c, v = .slice p l.length c ∧ (l = [] ∨ ∃ b o, p = some ⟨b, o, none⟩ ∧ cellsAt H b o (l.length * 2) = some (prC l))
theorem Ext.pr {H H' : Hp} (h : Ext H H') {l : List (Int × Int)} {v : Value} (hs : PrR H l v) : PrR H' l v := by
  obtain ⟨p, c, rfl, h1 | ⟨b, o, rfl, h1⟩⟩ := hs
  · exact ⟨p, c, rfl, .inl h1⟩
  · exact ⟨_, c, rfl, .inr ⟨b, o, rfl, h.keep _ _ _ _ h1⟩⟩
theorem PrR.h {H : Hp} {l : List (Int × Int)} {v : Value} (h : PrR H l v) : ∃ Hf, PrH l v Hf ∧ derE H Hf := by
  obtain ⟨p, c, rfl, rfl | ⟨b, o, rfl, hb⟩⟩ := h
  · exact ⟨[], ⟨p, c, rfl, .inl ⟨rfl, rfl⟩⟩, trivial⟩
  · refine ⟨[⟨b, o, .ro, prC l⟩], ⟨_, c, rfl, .inr ⟨b, o, rfl, rfl⟩⟩, ⟨rfl, ?_⟩, trivial⟩
    simpa only [prC_len] using hb
def ofG : List Value → Option Value
  | [.int .i64 n] => if -9223372036854775808 ≤ n ∧ n ≤ 9223372036854775807 then some (W.ofInt n).v else none
  | _ => none
attribute [push_cast] ofG
theorem SlR.vec {l : List Sl} {b n c : Nat} {k : Kind} {cs : List Value} {H : Hp} (h : cs = slC l) (hn : n = l.length) : SlR (⟨b, 0, k, cs⟩ :: H) l (.slice (some ⟨b, 0, none⟩) n c) := by
  subst h hn
  refine ⟨_, c, rfl, .inr ⟨b, 0, rfl, ?_⟩⟩
  simp only [cellsAt, findE, if_true, Nat.le_refl, Nat.sub_self, subL, Nat.zero_add, slC_len, List.drop_zero]
  rw [slC_take]
theorem Sl.takeA (x : Sl) (l : List Value) : List.take 8 (x.cells ++ l) = x.cells := rfl
theorem Sl.dropB (x : Sl) (l : List Value) (n : Nat) : List.drop (n + 8) (x.cells ++ l) = List.drop n l := rfl
attribute [push_cast] Sl.takeA Sl.dropB
theorem Sl.key_only (x : W) : x.cells ++ [.int .u64 0, .int .u64 0, .int .u64 0, .int .u64 0] = (Sl.mk x W.zero).cells := rfl
end Go.Ev
namespace Go.Proofs.Ytfjenfjfiinjmaa
open Go Go.Ev Go.Proofs
set_option maxRecDepth 100000
set_option maxHeartbeats 4000000
noncomputable def gD : Gam := addG 24 ofG gC
attribute [push_cast] gD
theorem gD_ok : GamOk Try.prog gD := by
  refine addG_ok (fun args v h => ?_) gC_ok
  unfold ofG at h
  split at h
  · split at h
    · rename_i n hh; cases h; exact refOf n hh
    · cases h
  · cases h
section
variable {H : Hp} {l m : List Sl} {v u : Value} {k w : W} {K' : Value → Hp → Prop}
theorem outE_use {g : FuncId} {args : List Value} {Hf : Hp} {r : List Sl × Int} {e : Nat} (hc : CallsV Try.prog g args Hf (OutE e r)) (hd : derE H Hf) (hm : marksOf H = [])
    (hk : ∀ w H', Ext H H' → SlR H' r.1 w → K' (.tuple #[w, .int .i64 r.2]) H') : CallsV Try.prog g args H K' :=
  hc.use hd (by
    rintro _ N ⟨w, rfl, ho⟩
    exact ⟨ho.wr.1, ho.wr.2, fun hf => hk w _ (ho.ext hm hf).1 (ho.ext hm hf).2⟩)
theorem outS_use {g : FuncId} {args : List Value} {Hf : Hp} {r : List Sl} {e : Nat} (hc : CallsV Try.prog g args Hf (OutS e r)) (hd : derE H Hf) (hm : marksOf H = [])
    (hk : ∀ w H', Ext H H' → SlR H' r w → K' w H') : CallsV Try.prog g args H K' :=
  hc.use hd (by
    rintro w N ho
    exact ⟨ho.wr.1, ho.wr.2, fun hf => hk w _ (ho.ext hm hf).1 (ho.ext hm hf).2⟩)
theorem put_use (hm : marksOf H = []) (hl : SlR H l v) (hk : ∀ w' H', Ext H H' → SlR H' (mergeR l [⟨k, w⟩]).1 w' → K' (.tuple #[w', .int .i64 (mergeR l [⟨k, w⟩]).2]) H') :
    CallsV Try.prog 17 [v, k.v, w.v] H K' := by
  obtain ⟨Hf, h1, h2⟩ := hl.h
  exact outE_use (put_ok h1.der h1.marks h1.r) h2 hm hk
theorem merge_use (hm : marksOf H = []) (hl : SlR H l v) (hu : SlR H m u) (hk : ∀ w' H', Ext H H' → SlR H' (mergeR l m).1 w' → K' (.tuple #[w', .int .i64 (mergeR l m).2]) H') :
    CallsV Try.prog 20 [v, u] H K' := by
  obtain ⟨Hf, h1, h2, h3, h4, h5⟩ := hl.two hu
  exact outE_use (merge_ok h2 h3 h4 h5) h1 hm hk
theorem diff_use (hm : marksOf H = []) (hl : SlR H l v) (hu : SlR H m u) (hk : ∀ w' H', Ext H H' → SlR H' (diffR l m).1 w' → K' (.tuple #[w', .int .i64 (diffR l m).2]) H') :
    CallsV Try.prog 22 [v, u] H K' := by
  obtain ⟨Hf, h1, h2, h3, h4, h5⟩ := hl.two hu
  exact outE_use (diff_ok h2 h3 h4 h5) h1 hm hk
theorem same_use (hl : SlR H l v) (hu : SlR H m u) (hn : l.length ≤ 4000) (hn2 : m.length ≤ 4000) (hk : K' (.bool (decide (l = m))) H) : CallsV Try.prog 19 [v, u] H K' := by
  obtain ⟨Hf, h1, h2, h3, h4, h5⟩ := hl.two hu
  exact (same_ok h3 h4 h5 hn hn2).pure h1 hk
theorem get_use (hl : SlR H l v) (hn : l.length ≤ 4000) (hk : K' (getW l k).v H) : CallsV Try.prog 15 [v, k.v] H K' := by
  obtain ⟨Hf, h1, h2⟩ := hl.h
  exact (get_ok h1 hn).pure h2 hk
theorem right_use (hl : SlR H l v) (hk : K' (.bool (rightB l)) H) : CallsV Try.prog 11 [v] H K' := by
  obtain ⟨Hf, h1, h2⟩ := hl.h
  exact (right_ok h1).pure h2 hk
theorem patch_use (hl : SlR H l v) (hk : K' (.bool (patchB l)) H) : CallsV Try.prog 13 [v] H K' := by
  obtain ⟨Hf, h1, h2⟩ := hl.h
  exact (patch_ok h1).pure h2 hk
theorem slots_use {raw : List (Int × Int)} {noughts : Bool} (hm : marksOf H = []) (hl : PrR H raw v) (hb : ∀ x ∈ raw, i64In x.1 ∧ i64In x.2) (hn : raw.length ≤ 9223372036854775807) (hk : ∀ w' H', Ext H H' → SlR H' (slotsL noughts (raw.take 20) []) w' → K' w' H') :
    CallsV Try.prog 9 [v, .bool noughts] H K' := by
  obtain ⟨Hf, h1, h2⟩ := hl.h
  exact outS_use (slots_ok h1 hb hn) h2 hm hk
end
section
theorem w7z : ¬ W.ofInt 7 = W.zero := by decide
theorem w1z : ¬ W.ofInt 1 = W.zero := by decide
theorem w0z : W.ofInt 0 = W.zero := by decide
theorem n3 : (W.ofInt 3).num = 3 := by decide
theorem n5 : (W.ofInt 5).num = 5 := by decide
theorem n1 : (W.ofInt 1).num = 1 := by decide
theorem patch_one (x : Sl) : patchB [x] = true := patchB_iff.2 ⟨by simp, List.pairwise_singleton _ _⟩
theorem right_nil : rightB [] = true := rightB_iff.2 ⟨List.Pairwise.nil, fun x h => (by cases h), by simp⟩
theorem right_one (x : Sl) (h : ¬ x.val = W.zero) : rightB [x] = true := rightB_iff.2 ⟨List.pairwise_singleton _ _, fun y hy => by rw [List.mem_singleton.1 hy]; exact h, by simp⟩
theorem right_two (x y : Sl) (h : ¬ x.val = W.zero) (h' : ¬ y.val = W.zero) (hk : x.key.num < y.key.num) : rightB [x, y] = true := rightB_iff.2 ⟨List.pairwise_cons.2 ⟨fun z hz => by rw [List.mem_singleton.1 hz]; exact hk, List.pairwise_singleton _ _⟩, fun z hz => by
  simp at hz; rcases hz with rfl | rfl <;> assumption, by simp⟩
theorem not_right (x : Sl) (l : List Sl) (h : x.val = W.zero) : rightB (x :: l) = false := by
  cases hr : rightB (x :: l) with
  | false => rfl
  | true => exact absurd h ((rightB_iff.1 hr).noz x (by simp))
theorem same_new {H : Hp} {l m : List Sl} {u : Value} {n e : Nat} {cs : List Value} {K' : Nat → Value → Hp → Prop} (hm : marksOf H = []) (hu : SlR H l u) (hcs : cs = slC m) (hn : n = m.length) (h1 : l.length ≤ 4000) (h2 : m.length ≤ 4000) (hk : ∀ b H', Ext H H' → K' b (.bool (decide (l = m))) H') :
    ∀ b, fresh b H → CallsV Try.prog 19 [u, .slice (some ⟨b, 0, none⟩) n n] (⟨b, 0, .vec e 8 n, cs⟩ :: H) (K' b) := fun b hb => by
  have x := Ext.cons (e := ⟨b, 0, .vec e 8 n, cs⟩) hm rfl hb
  exact same_use (x.sl hu) (.vec hcs hn) h1 h2 (hk b _ x)
theorem aw1 : mergeR [] [⟨W.ofInt 5, W.ofInt 7⟩] = ([⟨W.ofInt 5, W.ofInt 7⟩], 0) := by
  simp [mergeR, right_nil, patch_one, mergeL, joinS, pickM, w7z, limR]
theorem aw2 : mergeR [⟨W.ofInt 5, W.ofInt 7⟩] [⟨W.ofInt 3, W.ofInt 1⟩] = ([⟨W.ofInt 3, W.ofInt 1⟩, ⟨W.ofInt 5, W.ofInt 7⟩], 0) := by
  simp [mergeR, right_one ⟨W.ofInt 5, W.ofInt 7⟩ w7z, patch_one, mergeL, joinS, pickM, w7z, w1z, limR, n3, n5]
theorem aw3 : mergeR [⟨W.ofInt 3, W.ofInt 1⟩, ⟨W.ofInt 5, W.ofInt 7⟩] [⟨W.ofInt 5, W.ofInt 0⟩] = ([⟨W.ofInt 3, W.ofInt 1⟩], 0) := by
  simp [mergeR, right_two ⟨W.ofInt 3, W.ofInt 1⟩ ⟨W.ofInt 5, W.ofInt 7⟩ w1z w7z (by rw [n3, n5]; decide), patch_one, mergeL, joinS, pickM, w7z, w1z, w0z, limR, n3, n5]
theorem aw4 : diffR [⟨W.ofInt 3, W.ofInt 1⟩, ⟨W.ofInt 5, W.ofInt 7⟩] [⟨W.ofInt 3, W.ofInt 1⟩] = ([⟨W.ofInt 5, W.zero⟩], 0) := by
  simp [diffR, right_two ⟨W.ofInt 3, W.ofInt 1⟩ ⟨W.ofInt 5, W.ofInt 7⟩ w1z w7z (by rw [n3, n5]; decide), right_one ⟨W.ofInt 3, W.ofInt 1⟩ w1z, diffL, joinS, pickD, w7z, limR, n3, n5]
theorem aw5 : mergeR [⟨W.ofInt 3, W.ofInt 1⟩, ⟨W.ofInt 5, W.ofInt 7⟩] [⟨W.ofInt 5, W.zero⟩] = ([⟨W.ofInt 3, W.ofInt 1⟩], 0) := by
  rw [← w0z]; exact aw3
theorem aw6 : mergeR [⟨W.ofInt 1, W.zero⟩] [⟨W.ofInt 5, W.ofInt 7⟩] = ([], 1) := by
  simp [mergeR, not_right]
theorem aw7 : getW [⟨W.ofInt 3, W.ofInt 1⟩, ⟨W.ofInt 5, W.ofInt 7⟩] (W.ofInt 5) = W.ofInt 7 := by decide
end
theorem awake_ok : CallsV Try.prog 8 [] [] (Ret0 (.bool true)) := by
  refine callsO gD_ok Try.mix Try.pl8 Try.func8 rfl Try.ntmps8 Try.results8 rfl (by first | rfl | assumption) (Nat.le_of_ble_eq_true rfl) (by kernel_rfl) ?_
  simp only [push_cast, Nat.reduceAdd, Nat.reduceSub, Nat.reduceMul, Nat.reduceLT, Nat.reduceLeDiff, Nat.reduceEqDiff, Nat.reduceMod, Nat.reduceDiv, Int.reduceAdd, Int.reduceSub, Int.reduceMul, Int.reduceLT, Int.reduceLE, Int.reduceEq, Int.reduceNeg, Int.reduceToNat, reduceIte, reduceCtorEq]
  refine put_use rfl ⟨none, 0, rfl, .inl rfl⟩ ?_
  rw [aw1]; intro u1 H1 x1 s1
  simp only [push_cast, Nat.reduceAdd, Nat.reduceSub, Nat.reduceMul, Nat.reduceLT, Nat.reduceLeDiff, Nat.reduceEqDiff, Nat.reduceMod, Nat.reduceDiv, Int.reduceAdd, Int.reduceSub, Int.reduceMul, Int.reduceLT, Int.reduceLE, Int.reduceEq, Int.reduceNeg, Int.reduceToNat, reduceIte, reduceCtorEq]
  refine put_use x1.marks s1 ?_
  rw [aw2]; intro u2 H2 x2 s2
  simp only [push_cast, Nat.reduceAdd, Nat.reduceSub, Nat.reduceMul, Nat.reduceLT, Nat.reduceLeDiff, Nat.reduceEqDiff, Nat.reduceMod, Nat.reduceDiv, Int.reduceAdd, Int.reduceSub, Int.reduceMul, Int.reduceLT, Int.reduceLE, Int.reduceEq, Int.reduceNeg, Int.reduceToNat, reduceIte, reduceCtorEq]
  refine put_use x2.marks s2 ?_
  rw [aw3]; intro u3 H3 x3 s3
  simp only [push_cast, Nat.reduceAdd, Nat.reduceSub, Nat.reduceMul, Nat.reduceLT, Nat.reduceLeDiff, Nat.reduceEqDiff, Nat.reduceMod, Nat.reduceDiv, Int.reduceAdd, Int.reduceSub, Int.reduceMul, Int.reduceLT, Int.reduceLE, Int.reduceEq, Int.reduceNeg, Int.reduceToNat, reduceIte, reduceCtorEq]
  have s2 := x3.sl s2
  refine diff_use x3.marks s2 s3 ?_
  rw [aw4]; intro u4 H4 x4 s4
  simp only [push_cast, Nat.reduceAdd, Nat.reduceSub, Nat.reduceMul, Nat.reduceLT, Nat.reduceLeDiff, Nat.reduceEqDiff, Nat.reduceMod, Nat.reduceDiv, Int.reduceAdd, Int.reduceSub, Int.reduceMul, Int.reduceLT, Int.reduceLE, Int.reduceEq, Int.reduceNeg, Int.reduceToNat, reduceIte, reduceCtorEq]
  have s2 := x4.sl s2
  have s3 := x4.sl s3
  refine merge_use x4.marks s2 s4 ?_
  rw [aw5]; intro u5 H5 x5 s5
  simp only [push_cast, Nat.reduceAdd, Nat.reduceSub, Nat.reduceMul, Nat.reduceLT, Nat.reduceLeDiff, Nat.reduceEqDiff, Nat.reduceMod, Nat.reduceDiv, Int.reduceAdd, Int.reduceSub, Int.reduceMul, Int.reduceLT, Int.reduceLE, Int.reduceEq, Int.reduceNeg, Int.reduceToNat, reduceIte, reduceCtorEq, Sl.key_only]
  intro b6 hb6
  have x6 := Ext.cons (e := ⟨b6, 0, .vec 31 8 1, (Sl.mk (W.ofInt 1) W.zero).cells⟩) x5.marks rfl hb6
  have s6 : SlR (⟨b6, 0, .vec 31 8 1, (Sl.mk (W.ofInt 1) W.zero).cells⟩ :: H5) [⟨W.ofInt 1, W.zero⟩] (.slice (some ⟨b6, 0, none⟩) 1 1) := ⟨_, 1, rfl, .inr ⟨b6, 0, rfl, by simp only [push_cast, Nat.reduceAdd, Nat.reduceSub, Nat.reduceMul, Nat.reduceLT, Nat.reduceLeDiff, Nat.reduceEqDiff, Nat.reduceMod, Nat.reduceDiv, Int.reduceAdd, Int.reduceSub, Int.reduceMul, Int.reduceLT, Int.reduceLE, Int.reduceEq, Int.reduceNeg, Int.reduceToNat, reduceIte, reduceCtorEq, List.length_singleton]⟩⟩
  refine put_use x6.marks s6 ?_
  rw [aw6]; intro u7 H7 x7 s7
  have s2 := x7.sl (x6.sl (x5.sl s2))
  have s3 := x7.sl (x6.sl (x5.sl s3))
  have s4 := x7.sl (x6.sl (x5.sl s4))
  have s5 := x7.sl (x6.sl s5)
  simp only [push_cast, Nat.reduceAdd, Nat.reduceSub, Nat.reduceMul, Nat.reduceLT, Nat.reduceLeDiff, Nat.reduceEqDiff, Nat.reduceMod, Nat.reduceDiv, Int.reduceAdd, Int.reduceSub, Int.reduceMul, Int.reduceLT, Int.reduceLE, Int.reduceEq, Int.reduceNeg, Int.reduceToNat, reduceIte, reduceCtorEq, List.append_eq, Sl.pair]
  refine same_new (m := [⟨W.ofInt 3, W.ofInt 1⟩, ⟨W.ofInt 5, W.ofInt 7⟩]) x7.marks s2 ?_ ?_ (by decide) (by decide) ?_
  · simp [slC]
  · rfl
  rw [decide_eq_true rfl]
  intro b8 H8 x8
  simp only [push_cast, Nat.reduceAdd, Nat.reduceSub, Nat.reduceMul, Nat.reduceLT, Nat.reduceLeDiff, Nat.reduceEqDiff, Nat.reduceMod, Nat.reduceDiv, Int.reduceAdd, Int.reduceSub, Int.reduceMul, Int.reduceLT, Int.reduceLE, Int.reduceEq, Int.reduceNeg, Int.reduceToNat, reduceIte, reduceCtorEq, Sl.pair]
  refine same_new (m := [⟨W.ofInt 3, W.ofInt 1⟩]) x8.marks (x8.sl s3) ?_ ?_ (by decide) (by decide) ?_
  · simp [slC]
  · rfl
  rw [decide_eq_true rfl]
  intro b9 H9 x9
  simp only [push_cast, Nat.reduceAdd, Nat.reduceSub, Nat.reduceMul, Nat.reduceLT, Nat.reduceLeDiff, Nat.reduceEqDiff, Nat.reduceMod, Nat.reduceDiv, Int.reduceAdd, Int.reduceSub, Int.reduceMul, Int.reduceLT, Int.reduceLE, Int.reduceEq, Int.reduceNeg, Int.reduceToNat, reduceIte, reduceCtorEq, Sl.pair, Sl.key_only]
  have y9 := x8.trans x9
  refine same_new (m := [⟨W.ofInt 5, W.zero⟩]) x9.marks (y9.sl s4) ?_ ?_ (by decide) (by decide) ?_
  · simp [slC]
  · rfl
  rw [decide_eq_true rfl]
  intro b10 H10 x10
  simp only [push_cast, Nat.reduceAdd, Nat.reduceSub, Nat.reduceMul, Nat.reduceLT, Nat.reduceLeDiff, Nat.reduceEqDiff, Nat.reduceMod, Nat.reduceDiv, Int.reduceAdd, Int.reduceSub, Int.reduceMul, Int.reduceLT, Int.reduceLE, Int.reduceEq, Int.reduceNeg, Int.reduceToNat, reduceIte, reduceCtorEq]
  have y10 := y9.trans x10
  refine same_use (y10.sl s5) (y10.sl s3) (by decide) (by decide) ?_
  rw [decide_eq_true rfl]
  simp only [push_cast, Nat.reduceAdd, Nat.reduceSub, Nat.reduceMul, Nat.reduceLT, Nat.reduceLeDiff, Nat.reduceEqDiff, Nat.reduceMod, Nat.reduceDiv, Int.reduceAdd, Int.reduceSub, Int.reduceMul, Int.reduceLT, Int.reduceLE, Int.reduceEq, Int.reduceNeg, Int.reduceToNat, reduceIte, reduceCtorEq]
  refine get_use (y10.sl s2) (by decide) ?_
  rw [aw7]
  simp only [push_cast, Nat.reduceAdd, Nat.reduceSub, Nat.reduceMul, Nat.reduceLT, Nat.reduceLeDiff, Nat.reduceEqDiff, Nat.reduceMod, Nat.reduceDiv, Int.reduceAdd, Int.reduceSub, Int.reduceMul, Int.reduceLT, Int.reduceLE, Int.reduceEq, Int.reduceNeg, Int.reduceToNat, reduceIte, reduceCtorEq]
  refine right_use (y10.sl s2) ?_
  rw [right_two ⟨W.ofInt 3, W.ofInt 1⟩ ⟨W.ofInt 5, W.ofInt 7⟩ w1z w7z (by rw [n3, n5]; decide)]
  simp only [push_cast, Nat.reduceAdd, Nat.reduceSub, Nat.reduceMul, Nat.reduceLT, Nat.reduceLeDiff, Nat.reduceEqDiff, Nat.reduceMod, Nat.reduceDiv, Int.reduceAdd, Int.reduceSub, Int.reduceMul, Int.reduceLT, Int.reduceLE, Int.reduceEq, Int.reduceNeg, Int.reduceToNat, reduceIte, reduceCtorEq]
  refine patch_use (y10.sl s4) ?_
  rw [patch_one]
  simp only [push_cast, Nat.reduceAdd, Nat.reduceSub, Nat.reduceMul, Nat.reduceLT, Nat.reduceLeDiff, Nat.reduceEqDiff, Nat.reduceMod, Nat.reduceDiv, Int.reduceAdd, Int.reduceSub, Int.reduceMul, Int.reduceLT, Int.reduceLE, Int.reduceEq, Int.reduceNeg, Int.reduceToNat, reduceIte, reduceCtorEq]
  refine right_use (y10.sl s4) ?_
  rw [not_right _ _ rfl]
  simp only [push_cast, Nat.reduceAdd, Nat.reduceSub, Nat.reduceMul, Nat.reduceLT, Nat.reduceLeDiff, Nat.reduceEqDiff, Nat.reduceMod, Nat.reduceDiv, Int.reduceAdd, Int.reduceSub, Int.reduceMul, Int.reduceLT, Int.reduceLE, Int.reduceEq, Int.reduceNeg, Int.reduceToNat, reduceIte, reduceCtorEq]
end Go.Proofs.Ytfjenfjfiinjmaa
