/- Tk: the document's own Put, Merge and Diff on slots. -/
import Derived.Test.YtfjenfjfiinjmaaTj
import Derived.Test.YtfjenfjfiinjmaaLg
set_option linter.unusedSimpArgs false
set_option linter.unusedVariables false
namespace Go.Ev
/-- what the document's 'put' tells -/
def putR (k w : W) : List Sl → Bool → List Sl
  | [], d => if d then [] else [⟨k, w⟩]
  | x :: r, d => if x.key = k then putR k w r d else if d = false ∧ 0 < x.key.cmp k then ⟨k, w⟩ :: x :: putR k w r true else x :: putR k w r d
theorem W.cmp_pos {x y : W} : 0 < x.cmp y ↔ y.num < x.num := by unfold W.cmp; repeat' split <;> omega
theorem putR_done {k w : W} : ∀ {l : List Sl}, (∀ x ∈ l, ¬ x.key = k) → putR k w l true = l
  | [], _ => rfl
  | x :: r, h => by
    rw [putR, if_neg (h x (by simp)), if_neg (by simp), putR_done fun y hy => h y (by simp [hy])]
theorem putR_lt {k w : W} : ∀ {l : List Sl} (d : Bool), (∀ x ∈ l, k.num < x.key.num) → putR k w l d = (if d then [] else [⟨k, w⟩]) ++ l
  | [], d, _ => by simp [putR]
  | x :: r, d, h => by
    have h0 := h x (by simp)
    have hne : ∀ y ∈ x :: r, ¬ y.key = k := fun y hy e => by have := h y hy; rw [e] at this; omega
    cases d with
    | true => rw [putR_done hne]; rfl
    | false =>
      rw [putR, if_neg (hne x (by simp)), if_pos ⟨rfl, W.cmp_pos.2 h0⟩, putR_done fun y hy => hne y (by simp [hy])]
      rfl
theorem mergeL_nil' : ∀ {l : List Sl}, NoZ l → mergeL l [] = l
  | [], _ => by simp [mergeL, joinS]
  | x :: r, h => by
    have h0 : ¬ x.val = W.zero := h x (by simp)
    have ih := mergeL_nil' (l := r) fun y hy => h y (by simp [hy])
    unfold mergeL at ih ⊢
    rw [joinS, List.filterMap_cons_some (b := x) (by simp [pickM, h0]), ih]
theorem putR_merge {k w : W} : ∀ {l : List Sl}, Srt l → NoZ l → putR k w l (decide (w = W.zero)) = mergeL l [⟨k, w⟩]
  | [], _, _ => by by_cases h : w = W.zero <;> simp [putR, mergeL, joinS, pickM, h]
  | x :: r, hs, hz => by
    obtain ⟨h1, h2⟩ := List.pairwise_cons.1 hs
    have hx0 : ¬ x.val = W.zero := hz x (by simp)
    have hzr : NoZ r := fun y hy => hz y (by simp [hy])
    have ih := putR_merge (k := k) (w := w) h2 hzr
    have hnil := mergeL_nil' (l := x :: r) hz
    have hnilr := mergeL_nil' (l := r) hzr
    unfold mergeL at ih hnil hnilr ⊢
    rw [joinS]
    dsimp only
    split
    · rename_i hlt
      have hne : ¬ x.key = k := fun e => by rw [e] at hlt; omega
      have hc : ¬ 0 < x.key.cmp k := fun h => by have := W.cmp_pos.1 h; omega
      rw [List.filterMap_cons_some (b := x) (by simp [pickM, hx0]), putR, if_neg hne, if_neg (fun h => hc h.2), ih]
    · split
      · rename_i hlt
        rw [putR_lt _ fun z hz => by
          rcases List.mem_cons.1 hz with rfl | hz
          · exact hlt
          · exact Nat.lt_trans hlt (h1 z hz)]
        by_cases hw : w = W.zero
        · rw [List.filterMap_cons_none (by simp [pickM, hw]), hnil]; simp [hw]
        · rw [List.filterMap_cons_some (b := ⟨k, w⟩) (by simp [pickM, hw]), hnil]; simp [hw]
      · rename_i n1 n2
        have he : x.key = k := W.num_inj (by omega)
        rw [putR, if_pos he, putR_lt _ fun z hz => by rw [← he]; exact h1 z hz]
        by_cases hw : w = W.zero
        · rw [List.filterMap_cons_none (by simp [pickM, hw]), hnilr]; simp [hw]
        · rw [List.filterMap_cons_some (b := ⟨k, w⟩) (by simp [pickM, hw]), hnilr]; simp [hw]
theorem putR_len (k w : W) : ∀ (l : List Sl) (d : Bool), (putR k w l d).length ≤ l.length + 1
  | [], d => by rw [putR]; split <;> simp
  | x :: r, d => by
    have h1 := putR_len k w r d
    have h2 := putR_len k w r true
    have h3 : (putR k w r true).length ≤ r.length := by
      clear h1 h2
      induction r with
      | nil => simp [putR]
      | cons y s ih =>
        rw [putR]
        split
        · simp; omega
        · rw [if_neg (by simp)]; simpa using ih
    rw [putR]
    split
    · simp; omega
    · split
      · simp; omega
      · simp; omega
theorem OutS.c {e : Nat} {l : List Sl} {v : Value} {N : Hp} (h : OutS e l v N) : OutC e 8 (slC l) l.length v N := by
  rcases h with ⟨rfl, rfl, rfl⟩ | ⟨b, c, h0, rfl, hc, rfl⟩
  · exact .inl ⟨rfl, rfl, rfl, rfl⟩
  · exact .inr ⟨b, c, List.length_pos_iff.2 h0, rfl, hc, slC_len l, rfl⟩
theorem OutC.s {e : Nat} {l : List Sl} {v : Value} {N : Hp} (h : OutC e 8 (slC l) l.length v N) : OutS e l v N := by
  rcases h with ⟨h0, _, rfl, rfl⟩ | ⟨b, c, h0, rfl, hc, _, rfl⟩
  · exact .inl ⟨List.length_eq_zero_iff.1 h0, rfl, rfl⟩
  · exact .inr ⟨b, c, List.length_pos_iff.1 h0, rfl, hc, rfl⟩
theorem subH_pre {A B : Hp} (h : subH A B) : ∀ (N : Hp), subH (N ++ A) (N ++ B)
  | [] => h
  | n :: r => by
    refine ⟨by simp [findE], ?_⟩
    simp only [List.cons_append, remE, if_true]
    exact subH_pre h r
/-- what the document's Merge tells, before it is too long -/
def putsR (l m : List Sl) : List Sl := m.foldl (fun q x => putR x.key x.val q (decide (x.val = W.zero))) l
theorem putsR_succ (a s : List Sl) (x : Sl) : putsR a (s ++ [x]) = putR x.key x.val (putsR a s) (decide (x.val = W.zero)) := by
  unfold putsR; rw [List.foldl_append]; rfl
theorem putsR_eq {a : List Sl} (ha : Srt a) (hz : NoZ a) : ∀ (n : Nat) (s : List Sl), s.length = n → putsR a s = putsL a s
  | 0, s, h => by
    obtain rfl := List.length_eq_zero_iff.1 h
    rfl
  | n + 1, s, h => by
    obtain ⟨s', x, rfl⟩ : ∃ s' x, s = s' ++ [x] := ⟨s.dropLast, s.getLast (by intro e; rw [e] at h; simp at h), (List.dropLast_concat_getLast _).symm⟩
    have hl : s'.length = n := by simpa using h
    obtain ⟨h1, h2, _⟩ := putsL_ok ha hz n s' hl
    rw [putsL_succ, putsR_succ, putsR_eq ha hz n s' hl, putR_merge h1 h2]
theorem fresh_app {b : Nat} : ∀ {A B : Hp}, fresh b (A ++ B) → fresh b B
  | [], _, h => h
  | _ :: A, _, h => fresh_app (A := A) h.2.2
theorem subH_cons {a : Ent} {X : Hp} (h : fresh a.blk X) : subH (a :: X) X := by rw [subH_skip h]; exact subH_self X
end Go.Ev
namespace Go.Proofs.Ytfjenfjfiinjmaa
open Go Go.Ev Go.Proofs
set_option maxRecDepth 100000
set_option maxHeartbeats 4000000
theorem app_slot {X No : Hp} {out : List Sl} {vo : Value} {b : Nat} {x : Sl} {K : Value → Hp → Prop} (ho : OutS 31 out vo No) (hb : fresh b (No ++ X)) (hn : out.length ≤ 100000)
    (hk : ∀ v' N', OutS 31 (out ++ [x]) v' N' → freshN N' (⟨b, 0, .vec 31 8 1, x.cells⟩ :: X) → K v' (N' ++ ⟨b, 0, .vec 31 8 1, x.cells⟩ :: X)) :
    evAppend Try.prog (⟨b, 0, .vec 31 8 1, x.cells⟩ :: (No ++ X)) 22 22 vo (.slice (some ⟨b, 0, none⟩) 1 1) K := by
  refine append_out1 (e := 31) (sz := 8) (by_ := 64) (n := out.length) (m := 1) (cs := slC out) (ys := x.cells) ho.c hb (by simp only [push_cast, Nat.reduceAdd, Nat.reduceSub, Nat.reduceMul, Nat.reduceLT, Nat.reduceLeDiff, Nat.reduceEqDiff, Nat.reduceMod, Nat.reduceDiv, Int.reduceAdd, Int.reduceSub, Int.reduceMul, Int.reduceLT, Int.reduceLE, Int.reduceEq, Int.reduceNeg, Int.reduceToNat, reduceIte, reduceCtorEq]) (by simp only [push_cast, Nat.reduceAdd, Nat.reduceSub, Nat.reduceMul, Nat.reduceLT, Nat.reduceLeDiff, Nat.reduceEqDiff, Nat.reduceMod, Nat.reduceDiv, Int.reduceAdd, Int.reduceSub, Int.reduceMul, Int.reduceLT, Int.reduceLE, Int.reduceEq, Int.reduceNeg, Int.reduceToNat, reduceIte, reduceCtorEq]) rfl rfl (by unfold two47; omega) fun v' N' h1 h2 => hk v' N' ?_ h2
  refine OutC.s ?_
  rw [slC_app, slC_one, List.length_append]
  exact h1
theorem slR_src {H : Hp} {l : List Sl} {v : Value} (h : SlR H l v) : srcL Try.prog H 22 v 8 = some (slC l, l.length) := by
  obtain ⟨e, n, he⟩ : ∃ e n, elemI Try.prog 22 = some (none, e, n) := ⟨8, true, by kernel_rfl⟩
  obtain ⟨p, c, rfl, rfl | ⟨b, o, rfl, h⟩⟩ := h
  · rcases p with _ | ⟨b, o, _ | sp⟩
    · rw [srcL_none, he]; rfl
    · rw [srcL_some, he]
      dsimp only
      cases hc : cellsAt H b o (([] : List Sl).length * 8) with
      | none => rfl
      | some cs =>
        have : cs = [] := by
          unfold cellsAt at hc
          split at hc
          · split at hc
            · unfold subL at hc
              split at hc
              · simpa using (Option.some.inj hc).symm
              · cases hc
            · cases hc
          · cases hc
        subst this
        rfl
    · unfold srcL; rw [he]; rfl
  · rw [srcL_some, he, h]
theorem refput_ok {Hf : Hp} {l : List Sl} {v : Value} {k w : W} (hv : SlH l v Hf) (hn : l.length ≤ 4000) : CallsV Try.prog 34 [v, k.v, w.v] Hf (OutS 31 (putR k w l (decide (w = W.zero)))) := by
  have hm := hv.marks
  have hr := hv.r
  obtain ⟨q, c, rfl, _⟩ := id hr
  refine callsO gD_ok Try.mix Try.pl34 Try.func34 rfl Try.ntmps34 Try.results34 rfl (by first | rfl | assumption) (Nat.le_of_ble_eq_true rfl) (by kernel_rfl) ?_
  simp only [push_cast, Nat.reduceAdd, Nat.reduceSub, Nat.reduceMul, Nat.reduceLT, Nat.reduceLeDiff, Nat.reduceEqDiff, Nat.reduceMod, Nat.reduceDiv, Int.reduceAdd, Int.reduceSub, Int.reduceMul, Int.reduceLT, Int.reduceLE, Int.reduceEq, Int.reduceNeg, Int.reduceToNat, reduceIte, reduceCtorEq]
  intro b4 hb4 b5 hb5
  try simp only [push_cast, Nat.reduceAdd, Nat.reduceSub, Nat.reduceMul, Nat.reduceLT, Nat.reduceLeDiff, Nat.reduceEqDiff, Nat.reduceMod, Nat.reduceDiv, Int.reduceAdd, Int.reduceSub, Int.reduceMul, Int.reduceLT, Int.reduceLE, Int.reduceEq, Int.reduceNeg, Int.reduceToNat, reduceIte, reduceCtorEq, hb4, hb5, W.zero_agg]
  obtain ⟨d0, hd0⟩ : ∃ d0, d0 = decide (w = W.zero) := ⟨_, rfl⟩
  rw [← hd0]
  refine loopO gD_ok (pl := Try.pl34) Try.mix (X := Nat × Bool × List Sl × Value × Hp)
    (fun s => ([(0, .slice q l.length c), (4, .pointer (some ⟨b4, 0, none⟩)), (5, .pointer (some ⟨b5, 0, none⟩)), (7, s.2.2.2.1), (8, .bool s.2.1), (9, .int .i64 s.1)], s.2.2.2.2 ++ ⟨b5, 0, .cel 26, w.cells⟩ :: ⟨b4, 0, .cel 26, k.cells⟩ :: Hf))
    (fun s => s.1 ≤ l.length ∧ OutS 31 s.2.2.1 s.2.2.2.1 s.2.2.2.2 ∧ freshN s.2.2.2.2 (⟨b5, 0, .cel 26, w.cells⟩ :: ⟨b4, 0, .cel 26, k.cells⟩ :: Hf) ∧ s.2.2.1 ++ putR k w (l.drop s.1) s.2.1 = putR k w l d0)
    (fun s => l.length - s.1) (0, d0, [], .slice none 0 0, []) ?_ ?_ (by kernel_rfl) ?_
  · exact ⟨Nat.zero_le _, .inl ⟨rfl, rfl, rfl⟩, trivial, rfl⟩
  · simp only [push_cast, Nat.reduceAdd, Nat.reduceSub, Nat.reduceMul, Nat.reduceLT, Nat.reduceLeDiff, Nat.reduceEqDiff, Nat.reduceMod, Nat.reduceDiv, Int.reduceAdd, Int.reduceSub, Int.reduceMul, Int.reduceLT, Int.reduceLE, Int.reduceEq, Int.reduceNeg, Int.reduceToNat, reduceIte, reduceCtorEq, hm]
  · rintro ⟨i, d, out, vo, No⟩ ⟨hi, ho, hf, hp⟩
    dsimp only at hi ho hf hp ⊢
    have hol : out.length ≤ l.length + 1 := by
      have := putR_len k w l d0
      have h2 := congrArg List.length hp
      rw [List.length_append] at h2
      omega
    have f5 : findE (No ++ ⟨b5, 0, .cel 26, w.cells⟩ :: ⟨b4, 0, .cel 26, k.cells⟩ :: Hf) b5 = some ⟨b5, 0, .cel 26, w.cells⟩ := by
      rw [findE_freshN hf (b := b5) (e := ⟨b5, 0, .cel 26, w.cells⟩) (by simp only [push_cast, Nat.reduceAdd, Nat.reduceSub, Nat.reduceMul, Nat.reduceLT, Nat.reduceLeDiff, Nat.reduceEqDiff, Nat.reduceMod, Nat.reduceDiv, Int.reduceAdd, Int.reduceSub, Int.reduceMul, Int.reduceLT, Int.reduceLE, Int.reduceEq, Int.reduceNeg, Int.reduceToNat, reduceIte, reduceCtorEq])]; simp only [push_cast, Nat.reduceAdd, Nat.reduceSub, Nat.reduceMul, Nat.reduceLT, Nat.reduceLeDiff, Nat.reduceEqDiff, Nat.reduceMod, Nat.reduceDiv, Int.reduceAdd, Int.reduceSub, Int.reduceMul, Int.reduceLT, Int.reduceLE, Int.reduceEq, Int.reduceNeg, Int.reduceToNat, reduceIte, reduceCtorEq]
    have f4 : findE (No ++ ⟨b5, 0, .cel 26, w.cells⟩ :: ⟨b4, 0, .cel 26, k.cells⟩ :: Hf) b4 = some ⟨b4, 0, .cel 26, k.cells⟩ := by
      rw [findE_freshN hf (b := b4) (e := ⟨b4, 0, .cel 26, k.cells⟩) (by simp only [push_cast, Nat.reduceAdd, Nat.reduceSub, Nat.reduceMul, Nat.reduceLT, Nat.reduceLeDiff, Nat.reduceEqDiff, Nat.reduceMod, Nat.reduceDiv, Int.reduceAdd, Int.reduceSub, Int.reduceMul, Int.reduceLT, Int.reduceLE, Int.reduceEq, Int.reduceNeg, Int.reduceToNat, reduceIte, reduceCtorEq, hb5])]; simp only [push_cast, Nat.reduceAdd, Nat.reduceSub, Nat.reduceMul, Nat.reduceLT, Nat.reduceLeDiff, Nat.reduceEqDiff, Nat.reduceMod, Nat.reduceDiv, Int.reduceAdd, Int.reduceSub, Int.reduceMul, Int.reduceLT, Int.reduceLE, Int.reduceEq, Int.reduceNeg, Int.reduceToNat, reduceIte, reduceCtorEq, hb5]
    rcases Nat.lt_or_ge i l.length with hlt | hge
    · obtain ⟨x, hx⟩ : ∃ x, l[i]? = some x := ⟨l[i], List.getElem?_eq_getElem hlt⟩
      obtain ⟨b, o, c', hc⟩ := hr.lies hlt
      cases hc
      obtain ⟨e, he, hg⟩ := hr.here (by rintro rfl; cases hlt)
      have hxi := hg i x hx
      have hf3 := fresh_find hb4 he
      have hf4 := fresh_find hb5.2.2 he
      have fb : findE (No ++ ⟨b5, 0, .cel 26, w.cells⟩ :: ⟨b4, 0, .cel 26, k.cells⟩ :: Hf) b = some e := by
        rw [findE_freshN hf (b := b) (by simp only [push_cast, Nat.reduceAdd, Nat.reduceSub, Nat.reduceMul, Nat.reduceLT, Nat.reduceLeDiff, Nat.reduceEqDiff, Nat.reduceMod, Nat.reduceDiv, Int.reduceAdd, Int.reduceSub, Int.reduceMul, Int.reduceLT, Int.reduceLE, Int.reduceEq, Int.reduceNeg, Int.reduceToNat, reduceIte, reduceCtorEq, hf3, hf4]; exact he)]; simp only [push_cast, Nat.reduceAdd, Nat.reduceSub, Nat.reduceMul, Nat.reduceLT, Nat.reduceLeDiff, Nat.reduceEqDiff, Nat.reduceMod, Nat.reduceDiv, Int.reduceAdd, Int.reduceSub, Int.reduceMul, Int.reduceLT, Int.reduceLE, Int.reduceEq, Int.reduceNeg, Int.reduceToNat, reduceIte, reduceCtorEq, hf3, hf4]; exact he
      rw [List.drop_eq_getElem_cons hlt, show l[i] = x from (List.getElem?_eq_some_iff.1 hx).2, putR] at hp
      by_cases h0 : x.key = k
      · have e1 : decide (x.key = k) = true := by simpa using h0
        rw [if_pos h0] at hp
        simp only [push_cast, Nat.reduceAdd, Nat.reduceSub, Nat.reduceMul, Nat.reduceLT, Nat.reduceLeDiff, Nat.reduceEqDiff, Nat.reduceMod, Nat.reduceDiv, Int.reduceAdd, Int.reduceSub, Int.reduceMul, Int.reduceLT, Int.reduceLE, Int.reduceEq, Int.reduceNeg, Int.reduceToNat, reduceIte, reduceCtorEq, hlt, f4, f5, fb, hxi, e1, wrap_i64' (show -9223372036854775808 ≤ (i : Int) + 1 ∧ (i : Int) + 1 ≤ 9223372036854775807 by omega)]
        refine ⟨(i + 1, d, out, vo, No), ⟨hlt, ho, hf, hp⟩, by dsimp only; omega, ?_⟩
        exact ⟨⟨rfl, rfl, rfl⟩, subH_self _, rfl⟩
      · have e1 : decide (x.key = k) = false := by simpa using h0
        rw [if_neg h0] at hp
        cases d with
        | true =>
          rw [if_neg (by simp)] at hp
          simp only [push_cast, Nat.reduceAdd, Nat.reduceSub, Nat.reduceMul, Nat.reduceLT, Nat.reduceLeDiff, Nat.reduceEqDiff, Nat.reduceMod, Nat.reduceDiv, Int.reduceAdd, Int.reduceSub, Int.reduceMul, Int.reduceLT, Int.reduceLE, Int.reduceEq, Int.reduceNeg, Int.reduceToNat, reduceIte, reduceCtorEq, hlt, f4, f5, fb, hxi, e1]
          intro b10 hb10
          refine app_slot ho hb10 (by omega) fun v' N' ho' hf' => ?_
          simp only [push_cast, Nat.reduceAdd, Nat.reduceSub, Nat.reduceMul, Nat.reduceLT, Nat.reduceLeDiff, Nat.reduceEqDiff, Nat.reduceMod, Nat.reduceDiv, Int.reduceAdd, Int.reduceSub, Int.reduceMul, Int.reduceLT, Int.reduceLE, Int.reduceEq, Int.reduceNeg, Int.reduceToNat, reduceIte, reduceCtorEq, wrap_i64' (show -9223372036854775808 ≤ (i : Int) + 1 ∧ (i : Int) + 1 ≤ 9223372036854775807 by omega)]
          refine ⟨(i + 1, true, out ++ [x], v', N'), ⟨hlt, ho', freshN_cons hf', by rw [List.append_assoc]; exact hp⟩, by dsimp only; omega, ⟨rfl, rfl, rfl⟩, subH_pre (subH_cons (fresh_app hb10)) _, ?_⟩
          simp only [marks_append, marksOf]
        | false =>
          rcases Int.lt_or_le 0 (x.key.cmp k) with hc | hc
          · rw [if_pos ⟨rfl, hc⟩] at hp
            simp only [push_cast, Nat.reduceAdd, Nat.reduceSub, Nat.reduceMul, Nat.reduceLT, Nat.reduceLeDiff, Nat.reduceEqDiff, Nat.reduceMod, Nat.reduceDiv, Int.reduceAdd, Int.reduceSub, Int.reduceMul, Int.reduceLT, Int.reduceLE, Int.reduceEq, Int.reduceNeg, Int.reduceToNat, reduceIte, reduceCtorEq, hlt, f4, f5, fb, hxi, e1, hc]
            intro b10 hb10
            refine app_slot (x := ⟨k, w⟩) ho hb10 (by omega) fun v' N' ho' hf' => ?_
            have fb' : findE (N' ++ ⟨b10, 0, .vec 31 8 1, Sl.cells ⟨k, w⟩⟩ :: ⟨b5, 0, .cel 26, w.cells⟩ :: ⟨b4, 0, .cel 26, k.cells⟩ :: Hf) b = some e := by
              have := (fresh_find hb10 fb).2
              rw [findE_freshN hf' (b := b) (e := e) (by simp only [push_cast, Nat.reduceAdd, Nat.reduceSub, Nat.reduceMul, Nat.reduceLT, Nat.reduceLeDiff, Nat.reduceEqDiff, Nat.reduceMod, Nat.reduceDiv, Int.reduceAdd, Int.reduceSub, Int.reduceMul, Int.reduceLT, Int.reduceLE, Int.reduceEq, Int.reduceNeg, Int.reduceToNat, reduceIte, reduceCtorEq, hf3, hf4, this]; exact he)]; simp only [push_cast, Nat.reduceAdd, Nat.reduceSub, Nat.reduceMul, Nat.reduceLT, Nat.reduceLeDiff, Nat.reduceEqDiff, Nat.reduceMod, Nat.reduceDiv, Int.reduceAdd, Int.reduceSub, Int.reduceMul, Int.reduceLT, Int.reduceLE, Int.reduceEq, Int.reduceNeg, Int.reduceToNat, reduceIte, reduceCtorEq, hf3, hf4, this]; exact he
            simp only [push_cast, Nat.reduceAdd, Nat.reduceSub, Nat.reduceMul, Nat.reduceLT, Nat.reduceLeDiff, Nat.reduceEqDiff, Nat.reduceMod, Nat.reduceDiv, Int.reduceAdd, Int.reduceSub, Int.reduceMul, Int.reduceLT, Int.reduceLE, Int.reduceEq, Int.reduceNeg, Int.reduceToNat, reduceIte, reduceCtorEq, hlt, fb', hxi]
            intro b11 hb11
            refine app_slot (x := x) ho' hb11 (by simp; omega) fun v'' N'' ho'' hf'' => ?_
            simp only [push_cast, Nat.reduceAdd, Nat.reduceSub, Nat.reduceMul, Nat.reduceLT, Nat.reduceLeDiff, Nat.reduceEqDiff, Nat.reduceMod, Nat.reduceDiv, Int.reduceAdd, Int.reduceSub, Int.reduceMul, Int.reduceLT, Int.reduceLE, Int.reduceEq, Int.reduceNeg, Int.reduceToNat, reduceIte, reduceCtorEq, wrap_i64' (show -9223372036854775808 ≤ (i : Int) + 1 ∧ (i : Int) + 1 ≤ 9223372036854775807 by omega)]
            refine ⟨(i + 1, true, out ++ [⟨k, w⟩] ++ [x], v'', N''), ⟨hlt, ho'', freshN_cons (freshN_cons hf''), by rw [List.append_assoc, List.append_assoc]; exact hp⟩, by dsimp only; omega, ⟨rfl, rfl, rfl⟩, subH_pre ?_ _, ?_⟩
            · rw [subH_skip (e := ⟨b11, 0, .vec 31 8 1, x.cells⟩) (fresh_app hb11).2.2]
              exact subH_cons (fresh_app hb10)
            · simp only [marks_append, marksOf]
          · have hc' : ¬ 0 < x.key.cmp k := by omega
            rw [if_neg fun h => hc' h.2] at hp
            simp only [push_cast, Nat.reduceAdd, Nat.reduceSub, Nat.reduceMul, Nat.reduceLT, Nat.reduceLeDiff, Nat.reduceEqDiff, Nat.reduceMod, Nat.reduceDiv, Int.reduceAdd, Int.reduceSub, Int.reduceMul, Int.reduceLT, Int.reduceLE, Int.reduceEq, Int.reduceNeg, Int.reduceToNat, reduceIte, reduceCtorEq, hlt, f4, f5, fb, hxi, e1, hc']
            intro b10 hb10
            refine app_slot ho hb10 (by omega) fun v' N' ho' hf' => ?_
            simp only [push_cast, Nat.reduceAdd, Nat.reduceSub, Nat.reduceMul, Nat.reduceLT, Nat.reduceLeDiff, Nat.reduceEqDiff, Nat.reduceMod, Nat.reduceDiv, Int.reduceAdd, Int.reduceSub, Int.reduceMul, Int.reduceLT, Int.reduceLE, Int.reduceEq, Int.reduceNeg, Int.reduceToNat, reduceIte, reduceCtorEq, wrap_i64' (show -9223372036854775808 ≤ (i : Int) + 1 ∧ (i : Int) + 1 ≤ 9223372036854775807 by omega)]
            refine ⟨(i + 1, false, out ++ [x], v', N'), ⟨hlt, ho', freshN_cons hf', by rw [List.append_assoc]; exact hp⟩, by dsimp only; omega, ⟨rfl, rfl, rfl⟩, subH_pre (subH_cons (fresh_app hb10)) _, ?_⟩
            simp only [marks_append, marksOf]
    · have e2 : ¬ i < l.length := by omega
      rw [List.drop_of_length_le hge] at hp
      cases d with
      | true =>
        simp only [push_cast, Nat.reduceAdd, Nat.reduceSub, Nat.reduceMul, Nat.reduceLT, Nat.reduceLeDiff, Nat.reduceEqDiff, Nat.reduceMod, Nat.reduceDiv, Int.reduceAdd, Int.reduceSub, Int.reduceMul, Int.reduceLT, Int.reduceLE, Int.reduceEq, Int.reduceNeg, Int.reduceToNat, reduceIte, reduceCtorEq, e2]
        refine ⟨No, (by rw [dropM_eq (by simp only [marks_append, marksOf, ho.wr.2, hm, List.append_nil])]; exact List.sublist_append_left _ _), ?_⟩
        rw [← hp]
        simpa [putR] using ho
      | false =>
        simp only [push_cast, Nat.reduceAdd, Nat.reduceSub, Nat.reduceMul, Nat.reduceLT, Nat.reduceLeDiff, Nat.reduceEqDiff, Nat.reduceMod, Nat.reduceDiv, Int.reduceAdd, Int.reduceSub, Int.reduceMul, Int.reduceLT, Int.reduceLE, Int.reduceEq, Int.reduceNeg, Int.reduceToNat, reduceIte, reduceCtorEq, e2, f4, f5]
        intro b10 hb10
        refine app_slot (x := ⟨k, w⟩) ho hb10 (by omega) fun v' N' ho' hf' => ?_
        simp only [push_cast, Nat.reduceAdd, Nat.reduceSub, Nat.reduceMul, Nat.reduceLT, Nat.reduceLeDiff, Nat.reduceEqDiff, Nat.reduceMod, Nat.reduceDiv, Int.reduceAdd, Int.reduceSub, Int.reduceMul, Int.reduceLT, Int.reduceLE, Int.reduceEq, Int.reduceNeg, Int.reduceToNat, reduceIte, reduceCtorEq]
        refine ⟨N', (by rw [dropM_eq (by simp only [marks_append, marksOf, ho'.wr.2, hm, List.append_nil])]; exact List.sublist_append_left _ _), ?_⟩
        rw [← hp]
        exact ho'
theorem refMerge_ok {Hf : Hp} {l m : List Sl} {v u : Value} (hm : marksOf Hf = []) (h1 : SlR Hf l v) (h2 : SlR Hf m u) (hn : l.length ≤ 2000) (hn2 : m.length ≤ 2000) (hd : derE Hf Hf) :
    CallsV Try.prog 21 [v, u] Hf (OutE 31 (mergeR l m)) := by
  obtain ⟨q1, c1, rfl, _⟩ := id h1
  obtain ⟨q2, c2, rfl, _⟩ := id h2
  obtain ⟨L, l1, l2⟩ := h1.h
  obtain ⟨M, m1, m2⟩ := h2.h
  refine callsO gD_ok Try.mix Try.pl21 Try.func21 rfl Try.ntmps21 Try.results21 rfl (by first | rfl | assumption) (Nat.le_of_ble_eq_true rfl) (by kernel_rfl) ?_
  simp only [push_cast, Nat.reduceAdd, Nat.reduceSub, Nat.reduceMul, Nat.reduceLT, Nat.reduceLeDiff, Nat.reduceEqDiff, Nat.reduceMod, Nat.reduceDiv, Int.reduceAdd, Int.reduceSub, Int.reduceMul, Int.reduceLT, Int.reduceLE, Int.reduceEq, Int.reduceNeg, Int.reduceToNat, reduceIte, reduceCtorEq]
  refine (refRight_ok l1 (by omega)).pure l2 ?_
  simp only [push_cast, Nat.reduceAdd, Nat.reduceSub, Nat.reduceMul, Nat.reduceLT, Nat.reduceLeDiff, Nat.reduceEqDiff, Nat.reduceMod, Nat.reduceDiv, Int.reduceAdd, Int.reduceSub, Int.reduceMul, Int.reduceLT, Int.reduceLE, Int.reduceEq, Int.reduceNeg, Int.reduceToNat, reduceIte, reduceCtorEq]
  cases hr : rightB l with
  | false =>
    simp only [push_cast, Nat.reduceAdd, Nat.reduceSub, Nat.reduceMul, Nat.reduceLT, Nat.reduceLeDiff, Nat.reduceEqDiff, Nat.reduceMod, Nat.reduceDiv, Int.reduceAdd, Int.reduceSub, Int.reduceMul, Int.reduceLT, Int.reduceLE, Int.reduceEq, Int.reduceNeg, Int.reduceToNat, reduceIte, reduceCtorEq]
    exact ⟨[], List.nil_sublist _, _, by simp [mergeR, hr], .inl ⟨by simp [mergeR, hr], rfl, rfl⟩⟩
  | true =>
  simp only [push_cast, Nat.reduceAdd, Nat.reduceSub, Nat.reduceMul, Nat.reduceLT, Nat.reduceLeDiff, Nat.reduceEqDiff, Nat.reduceMod, Nat.reduceDiv, Int.reduceAdd, Int.reduceSub, Int.reduceMul, Int.reduceLT, Int.reduceLE, Int.reduceEq, Int.reduceNeg, Int.reduceToNat, reduceIte, reduceCtorEq]
  refine (refPatch_ok m1 (by omega)).pure m2 ?_
  simp only [push_cast, Nat.reduceAdd, Nat.reduceSub, Nat.reduceMul, Nat.reduceLT, Nat.reduceLeDiff, Nat.reduceEqDiff, Nat.reduceMod, Nat.reduceDiv, Int.reduceAdd, Int.reduceSub, Int.reduceMul, Int.reduceLT, Int.reduceLE, Int.reduceEq, Int.reduceNeg, Int.reduceToNat, reduceIte, reduceCtorEq]
  cases hp : patchB m with
  | false =>
    simp only [push_cast, Nat.reduceAdd, Nat.reduceSub, Nat.reduceMul, Nat.reduceLT, Nat.reduceLeDiff, Nat.reduceEqDiff, Nat.reduceMod, Nat.reduceDiv, Int.reduceAdd, Int.reduceSub, Int.reduceMul, Int.reduceLT, Int.reduceLE, Int.reduceEq, Int.reduceNeg, Int.reduceToNat, reduceIte, reduceCtorEq]
    exact ⟨[], List.nil_sublist _, _, by simp [mergeR, hr, hp], .inl ⟨by simp [mergeR, hr, hp], rfl, rfl⟩⟩
  | true =>
  have ln1 := rightB_len hr
  have ln2 := patchB_len hp
  have rl := rightB_iff.1 hr
  have sm := (patchB_iff.1 hp).2
  have hsrc : srcL Try.prog Hf 22 (.slice q1 l.length c1) 8 = some (slC l, l.length) := slR_src h1
  simp only [push_cast, Nat.reduceAdd, Nat.reduceSub, Nat.reduceMul, Nat.reduceLT, Nat.reduceLeDiff, Nat.reduceEqDiff, Nat.reduceMod, Nat.reduceDiv, Int.reduceAdd, Int.reduceSub, Int.reduceMul, Int.reduceLT, Int.reduceLE, Int.reduceEq, Int.reduceNeg, Int.reduceToNat, reduceIte, reduceCtorEq, hsrc]
  refine (fun rest => ?main : ((T : Tm) → (H : Hp) → (∃ vo No, OutS 31 l vo No ∧ freshN No Hf ∧ subT T [(1, .slice q2 m.length c2), (6, vo), (7, .int .i64 0)] ∧ subH H (No ++ Hf) ∧ marksOf H = []) → WpV Try.prog none 40 (.loop ?c) ?K T H) → _) ?rest
  case main =>
    refine ⟨fun h0 => ?_, fun h0 => ⟨by unfold two47; omega, fun b c' hb hc' => ?_⟩⟩
    · refine rest _ _ ?_
      refine ⟨_, [], .inl ⟨List.length_eq_zero_iff.1 h0, rfl, rfl⟩, trivial, ?_, subH_self _, hm⟩
      simp only [push_cast, Nat.reduceAdd, Nat.reduceSub, Nat.reduceMul, Nat.reduceLT, Nat.reduceLeDiff, Nat.reduceEqDiff, Nat.reduceMod, Nat.reduceDiv, Int.reduceAdd, Int.reduceSub, Int.reduceMul, Int.reduceLT, Int.reduceLE, Int.reduceEq, Int.reduceNeg, Int.reduceToNat, reduceIte, reduceCtorEq]
    · refine rest _ _ ?_
      refine ⟨_, [_], .inr ⟨b, c', List.length_pos_iff.1 h0, rfl, hc', rfl⟩, ⟨hb, trivial⟩, ?_, subH_self _, hm⟩
      simp only [push_cast, Nat.reduceAdd, Nat.reduceSub, Nat.reduceMul, Nat.reduceLT, Nat.reduceLeDiff, Nat.reduceEqDiff, Nat.reduceMod, Nat.reduceDiv, Int.reduceAdd, Int.reduceSub, Int.reduceMul, Int.reduceLT, Int.reduceLE, Int.reduceEq, Int.reduceNeg, Int.reduceToNat, reduceIte, reduceCtorEq]
  case rest =>
    rintro T H ⟨vo, No, ho, hf, hT, hH, hmH⟩
    refine loopO gD_ok (pl := Try.pl21) Try.mix (X := Nat × Value × Hp)
      (fun s => ([(1, .slice q2 m.length c2), (6, s.2.1), (7, .int .i64 s.1)], s.2.2 ++ Hf))
      (fun s => s.1 ≤ m.length ∧ OutS 31 (putsR l (m.take s.1)) s.2.1 s.2.2 ∧ freshN s.2.2 Hf) (fun s => m.length - s.1) (0, vo, No) ?_ ?_ (by kernel_rfl) ?_
    · exact ⟨Nat.zero_le _, ho, hf⟩
    · exact ⟨hT, hH, by rw [hmH, marks_append, ho.wr.2, hm]; rfl⟩
    · rintro ⟨k, vo, No⟩ ⟨hk, ho, hf⟩
      dsimp only at hk ho hf ⊢
      clear hT hH hmH
      obtain ⟨iq1, iq2, iq3⟩ := putsL_ok rl.srt rl.noz k (m.take k) (by simp; omega)
      rw [← putsR_eq rl.srt rl.noz k (m.take k) (by simp; omega)] at iq1 iq2 iq3
      rcases Nat.lt_or_ge k m.length with hlt | hge
      · obtain ⟨x, hx⟩ : ∃ x, m[k]? = some x := ⟨m[k], List.getElem?_eq_getElem hlt⟩
        have tq : m.take (k + 1) = m.take k ++ [x] := by rw [List.take_add_one, hx]; rfl
        obtain ⟨b2, o2, c2', hc⟩ := h2.lies hlt
        cases hc
        obtain ⟨e2, he2, hg2⟩ := h2.here (by rintro rfl; cases hlt)
        have hxk := hg2 k x hx
        have fb : findE (No ++ Hf) b2 = some e2 := by rw [findE_freshN hf he2]; exact he2
        simp only [push_cast, Nat.reduceAdd, Nat.reduceSub, Nat.reduceMul, Nat.reduceLT, Nat.reduceLeDiff, Nat.reduceEqDiff, Nat.reduceMod, Nat.reduceDiv, Int.reduceAdd, Int.reduceSub, Int.reduceMul, Int.reduceLT, Int.reduceLE, Int.reduceEq, Int.reduceNeg, Int.reduceToNat, reduceIte, reduceCtorEq, hlt, fb, hxk]
        obtain ⟨Ho, ho1, ho2⟩ := (ho.r (H := Hf)).h
        refine (refput_ok ho1 (by omega)).use ho2 ?_
        intro v' N' ho'
        refine ⟨ho'.wr.1, ho'.wr.2, fun hf' => ?_⟩
        have hsub := subH_new (No ++ Hf) N' fun e he x hx => freshN_ne hf' e he x hx
        simp only [push_cast, Nat.reduceAdd, Nat.reduceSub, Nat.reduceMul, Nat.reduceLT, Nat.reduceLeDiff, Nat.reduceEqDiff, Nat.reduceMod, Nat.reduceDiv, Int.reduceAdd, Int.reduceSub, Int.reduceMul, Int.reduceLT, Int.reduceLE, Int.reduceEq, Int.reduceNeg, Int.reduceToNat, reduceIte, reduceCtorEq, hsub, wrap_i64' (show -9223372036854775808 ≤ (k : Int) + 1 ∧ (k : Int) + 1 ≤ 9223372036854775807 by omega)]
        refine ⟨(k + 1, v', N'), ⟨hlt, by rw [tq, putsR_succ]; exact ho', freshN_app hf'⟩, by dsimp only; omega, ⟨rfl, rfl⟩, subH_pre (subH_new Hf No fun e he x hx => freshN_ne hf e he x hx) _, ?_⟩
        simp only [marks_append, marksOf, ho.wr.2, ho'.wr.2, List.nil_append]
      · have e2 : ¬ k < m.length := by omega
        obtain ⟨p, c, rfl⟩ := ho.c.slice
        rw [List.take_of_length_le hge, putsR_eq rl.srt rl.noz m.length m rfl, puts_merge rl sm] at ho iq3
        rw [List.take_of_length_le hge, putsR_eq rl.srt rl.noz m.length m rfl, puts_merge rl sm]
        have hmr : mergeR l m = limR (mergeL l m) := by simp [mergeR, hr, hp]
        have hdm : dropM (No ++ Hf) = No ++ Hf := dropM_eq (by simp only [marks_append, marksOf, ho.wr.2, hm, List.append_nil])
        rcases Nat.lt_or_ge 1000 (mergeL l m).length with h | h
        · have h' : (1000 : Int) < ((mergeL l m).length : Int) := by omega
          simp only [push_cast, Nat.reduceAdd, Nat.reduceSub, Nat.reduceMul, Nat.reduceLT, Nat.reduceLeDiff, Nat.reduceEqDiff, Nat.reduceMod, Nat.reduceDiv, Int.reduceAdd, Int.reduceSub, Int.reduceMul, Int.reduceLT, Int.reduceLE, Int.reduceEq, Int.reduceNeg, Int.reduceToNat, reduceIte, reduceCtorEq, e2, h', hmr, limR, h]
          exact ⟨[], List.nil_sublist _, _, rfl, .inl ⟨rfl, rfl, rfl⟩⟩
        · have h' : ¬ (1000 : Int) < ((mergeL l m).length : Int) := by omega
          simp only [push_cast, Nat.reduceAdd, Nat.reduceSub, Nat.reduceMul, Nat.reduceLT, Nat.reduceLeDiff, Nat.reduceEqDiff, Nat.reduceMod, Nat.reduceDiv, Int.reduceAdd, Int.reduceSub, Int.reduceMul, Int.reduceLT, Int.reduceLE, Int.reduceEq, Int.reduceNeg, Int.reduceToNat, reduceIte, reduceCtorEq, e2, h', hmr, limR, Nat.not_lt.2 h, hdm]
          exact ⟨No, List.sublist_append_left _ _, _, rfl, ho⟩
end Go.Proofs.Ytfjenfjfiinjmaa
