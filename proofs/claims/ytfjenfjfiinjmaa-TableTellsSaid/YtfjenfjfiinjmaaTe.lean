/- Te: Merge, Diff, Put. -/
import Derived.Test.YtfjenfjfiinjmaaTd
set_option linter.unusedSimpArgs false
set_option linter.unusedVariables false
namespace Go.Ev
theorem cellsAt_find {H : Hp} {b o n : Nat} {cs : List Value} (h : cellsAt H b o n = some cs) : ∃ e, findE H b = some e := by
  unfold cellsAt at h
  cases hf : findE H b with
  | none => rw [hf] at h; cases h
  | some e => exact ⟨e, rfl⟩
theorem SlR.cons {H : Hp} {l : List Sl} {v : Value} {e : Ent} (h : SlR H l v) (hf : fresh e.blk H) : SlR (e :: H) l v := by
  obtain ⟨p, c, rfl, h | ⟨b, o, rfl, h⟩⟩ := h
  · exact ⟨p, c, rfl, .inl h⟩
  · refine ⟨_, c, rfl, .inr ⟨b, o, rfl, ?_⟩⟩
    obtain ⟨e', he⟩ := cellsAt_find h
    have := (fresh_find hf he).2
    unfold cellsAt at h ⊢
    simp only [findE, if_neg this]
    exact h
theorem SlR.app {H : Hp} {l : List Sl} {v : Value} (h : SlR H l v) : ∀ {N : Hp}, freshN N H → (N.Pairwise fun e f => e.blk ≠ f.blk) → SlR (N ++ H) l v
  | [], _, _ => h
  | e :: r, hf, hp => by
    obtain ⟨h1, h2⟩ := List.pairwise_cons.1 hp
    have := h.app hf.2 h2
    obtain ⟨p, c, rfl, h | ⟨b, o, rfl, h⟩⟩ := h
    · exact ⟨p, c, rfl, .inl h⟩
    · obtain ⟨p', c', hv, h' | ⟨b', o', hv', h'⟩⟩ := this
      · exact ⟨_, c, rfl, .inl h'⟩
      · cases hv; cases hv'
        refine ⟨_, c, rfl, .inr ⟨b, o, rfl, ?_⟩⟩
        obtain ⟨e', he⟩ := cellsAt_find h
        have := (fresh_find hf.1 he).2
        unfold cellsAt at h' ⊢
        simp only [findE, List.cons_append, if_neg this]
        exact h'
theorem SlR.two {H : Hp} {l m : List Sl} {v u : Value} (h1 : SlR H l v) (h2 : SlR H m u) : ∃ Hf, derE H Hf ∧ derE Hf Hf ∧ marksOf Hf = [] ∧ SlR Hf l v ∧ SlR Hf m u := by
  have self : ∀ {b : Nat} {e : Ent} {R : Hp}, findE R b = some e → cellsAt R e.blk e.off e.cells.length = some e.cells := fun {b e R} hf => by
    have hb := (findE_mem hf).2
    unfold cellsAt
    rw [hb, hf]
    simp [subL]
  have ro : ∀ {b o n : Nat} {cs : List Value} {e : Ent} {R : Hp}, findE H b = some e → cellsAt H b o n = some cs → findE R b = some { e with kind := .ro } → cellsAt R b o n = some cs := fun {b o n cs e R} hf hc hr => by
    unfold cellsAt at hc ⊢
    rw [hf] at hc; rw [hr]; exact hc
  obtain ⟨p, c, rfl, h1⟩ := h1
  obtain ⟨p', c', rfl, h2⟩ := h2
  rcases h1 with rfl | ⟨b, o, rfl, h1⟩
  · rcases h2 with rfl | ⟨b', o', rfl, h2⟩
    · exact ⟨[], trivial, trivial, rfl, ⟨p, c, rfl, .inl rfl⟩, ⟨p', c', rfl, .inl rfl⟩⟩
    · obtain ⟨e', he'⟩ := cellsAt_find h2
      have hb' := (findE_mem he').2
      have hs : findE [{ e' with kind := .ro }] b' = some { e' with kind := .ro } := by simp [findE, hb']
      exact ⟨[{ e' with kind := .ro }], ⟨⟨rfl, self (e := e') he'⟩, trivial⟩, ⟨⟨rfl, self (e := { e' with kind := .ro }) hs⟩, trivial⟩, rfl, ⟨p, c, rfl, .inl rfl⟩, ⟨_, c', rfl, .inr ⟨b', o', rfl, ro he' h2 hs⟩⟩⟩
  · obtain ⟨e, he⟩ := cellsAt_find h1
    have hb := (findE_mem he).2
    rcases h2 with rfl | ⟨b', o', rfl, h2⟩
    · have hs : findE [{ e with kind := .ro }] b = some { e with kind := .ro } := by simp [findE, hb]
      exact ⟨[{ e with kind := .ro }], ⟨⟨rfl, self (e := e) he⟩, trivial⟩, ⟨⟨rfl, self (e := { e with kind := .ro }) hs⟩, trivial⟩, rfl, ⟨_, c, rfl, .inr ⟨b, o, rfl, ro he h1 hs⟩⟩, ⟨p', c', rfl, .inl rfl⟩⟩
    · obtain ⟨e', he'⟩ := cellsAt_find h2
      have hb' := (findE_mem he').2
      by_cases hbb : b' = b
      · subst hbb
        have hs : findE [{ e with kind := .ro }] b' = some { e with kind := .ro } := by simp [findE, hb]
        exact ⟨[{ e with kind := .ro }], ⟨⟨rfl, self (e := e) he⟩, trivial⟩, ⟨⟨rfl, self (e := { e with kind := .ro }) hs⟩, trivial⟩, rfl, ⟨_, c, rfl, .inr ⟨b', o, rfl, ro he h1 hs⟩⟩, ⟨_, c', rfl, .inr ⟨b', o', rfl, ro he h2 hs⟩⟩⟩
      · have hs : findE [{ e with kind := .ro }, { e' with kind := .ro }] b = some { e with kind := .ro } := by simp [findE, hb]
        have hs' : findE [{ e with kind := .ro }, { e' with kind := .ro }] b' = some { e' with kind := .ro } := by simp [findE, hb, hb', hbb]
        exact ⟨[{ e with kind := .ro }, { e' with kind := .ro }], ⟨⟨rfl, self (e := e) he⟩, ⟨rfl, self (e := e') he'⟩, trivial⟩, ⟨⟨rfl, self (e := { e with kind := .ro }) hs⟩, ⟨rfl, self (e := { e' with kind := .ro }) hs'⟩, trivial⟩, rfl, ⟨_, c, rfl, .inr ⟨b, o, rfl, ro he h1 hs⟩⟩, ⟨_, c', rfl, .inr ⟨b', o', rfl, ro he' h2 hs'⟩⟩⟩
theorem OutS.pair {e : Nat} {l : List Sl} {v : Value} {N : Hp} (h : OutS e l v N) : N.Pairwise fun e f => e.blk ≠ f.blk := by
  obtain ⟨rfl, rfl, rfl⟩ | ⟨b, c, h0, rfl, hc, rfl⟩ := h
  · exact List.Pairwise.nil
  · simp
theorem findE_skip {b : Nat} {L : Hp} : ∀ {A : Hp}, (∀ x ∈ A, ¬ x.blk = b) → findE (A ++ L) b = findE L b
  | [], _ => rfl
  | x :: r, h => by
    have := h x (by simp)
    simp only [findE, List.cons_append, if_neg (Ne.symm this)]
    exact findE_skip fun y hy => h y (by simp [hy])
theorem OutS.suf {e : Nat} {l : List Sl} {v : Value} {N A B : Hp} (h : OutS e l v N) (hA : ∀ x ∈ A, ∀ y ∈ N, ¬ x.blk = y.blk) : ∃ b, SufS (A ++ (N ++ B)) l b 0 v := by
  obtain ⟨rfl, rfl, rfl⟩ | ⟨b, c, h0, rfl, hc, rfl⟩ := h
  · exact ⟨0, .inl ⟨rfl, none, 0, rfl⟩⟩
  · refine ⟨b, .inr ⟨?_, c, hc, ?_, .vec e 8 c, ?_⟩⟩
    · rcases l with _ | ⟨x, r⟩
      · exact absurd rfl h0
      · simp
    · simp
    · rw [findE_skip (b := b) fun x hx => hA x hx ⟨b, 0, .vec e 8 c, slC l⟩ (by simp)]
      simp [findE]
theorem joinS_len : ∀ (a b : List Sl), (joinS a b).length ≤ a.length + b.length
  | [], [] => by simp [joinS]
  | x :: r, [] => by have := joinS_len r []; simp only [joinS, List.length_cons, List.length_nil] at *; omega
  | [], y :: s => by have := joinS_len [] s; simp only [joinS, List.length_cons, List.length_nil] at *; omega
  | x :: r, y :: s => by
    rw [joinS]
    split
    · have := joinS_len r (y :: s); simp only [List.length_cons] at *; omega
    · split
      · have := joinS_len (x :: r) s; simp only [List.length_cons] at *; omega
      · have := joinS_len r s; simp only [List.length_cons] at *; omega
termination_by a b => a.length + b.length
theorem freshN_ne {H : Hp} : ∀ {N : Hp}, freshN N H → ∀ e ∈ N, ∀ x ∈ H, ¬ x.blk = e.blk
  | [], _, e, he => by cases he
  | y :: r, h, e, he => by
    rcases List.mem_cons.1 he with rfl | he
    · exact findE_fresh h.1
    · exact freshN_ne h.2 e he
def OutE (e : Nat) (r : List Sl × Int) : Value → Hp → Prop := fun v N => ∃ w, v = .tuple #[w, .int .i64 r.2] ∧ OutS e r.1 w N
/-- what Merge keeps of a key -/
def pickM (x : Bo) : Option Sl := if (if x.inB then x.b else x.a) = W.zero then none else some ⟨x.key, if x.inB then x.b else x.a⟩
def pickD (x : Bo) : Option Sl := if x.a = x.b then none else some ⟨x.key, x.b⟩
def mergeL (l m : List Sl) : List Sl := (joinS l m).filterMap pickM
def diffL (l m : List Sl) : List Sl := (joinS l m).filterMap pickD
def limR (l : List Sl) : List Sl × Int := if 1000 < l.length then ([], 2) else (l, 0)
noncomputable def mergeR (l m : List Sl) : List Sl × Int := if rightB l && patchB m then limR (mergeL l m) else ([], 1)
noncomputable def diffR (l m : List Sl) : List Sl × Int := if rightB l && rightB m then limR (diffL l m) else ([], 1)
theorem rightB_len {l : List Sl} (h : rightB l = true) : l.length ≤ 1000 := by unfold rightB patchB at h; simp at h; exact h.1.1
theorem patchB_len {l : List Sl} (h : patchB l = true) : l.length ≤ 1000 := by unfold patchB at h; simp at h; exact h.1
theorem Bo.len (x : Bo) : x.cells.length = 13 := rfl
theorem Bo.take13 (x : Bo) : List.take 13 x.cells = x.cells := rfl
theorem Bo.drop13 (x : Bo) : List.drop 13 x.cells = [] := rfl
theorem Bo.all1 (x : Bo) : x.cells.all oneC = true := rfl
theorem Bo.key0 (x : Bo) : List.take 4 x.cells = x.key.cells := rfl
theorem Bo.a4 (x : Bo) : List.take 4 (List.drop 4 x.cells) = x.a.cells := rfl
theorem Bo.b8 (x : Bo) : List.take 4 (List.drop 8 x.cells) = x.b.cells := rfl
theorem Bo.i12 (x : Bo) : List.take 1 (List.drop 12 x.cells) = [.bool x.inB] := rfl
theorem Bo.agg (x : Bo) : Value.agg x.cells.toArray = x.v := rfl
theorem Bo.v_cells (x : Bo) : x.v.cells = x.cells.toArray := rfl
attribute [push_cast] Bo.len Bo.take13 Bo.drop13 Bo.all1 Bo.key0 Bo.a4 Bo.b8 Bo.i12 Bo.agg Bo.v_cells
end Go.Ev
namespace Go.Proofs.Ytfjenfjfiinjmaa
open Go Go.Ev Go.Proofs
set_option maxRecDepth 100000
set_option maxHeartbeats 4000000
theorem with_ok (s t : Value × Value) : CallsV Try.prog 32 [.agg #[s.1, s.2], .agg #[t.1, t.2]] []
    (fun v N => ∃ b2 b3, ¬ b2 = b3 ∧ v = .func (.func 36) #[] #[.pointer (some ⟨b2, 0, none⟩), .pointer (some ⟨b3, 0, none⟩)] ∧ N = [⟨b3, 0, .cel 52, [t.1, t.2]⟩, ⟨b2, 0, .cel 52, [s.1, s.2]⟩]) := by
  refine callsO gB_ok Try.mix Try.pl32 Try.func32 rfl Try.ntmps32 Try.results32 rfl (by first | rfl | assumption) (Nat.le_of_ble_eq_true rfl) (by kernel_rfl) ?_
  simp only [push_cast, Nat.reduceAdd, Nat.reduceSub, Nat.reduceMul, Nat.reduceLT, Nat.reduceLeDiff, Nat.reduceEqDiff, Nat.reduceMod, Nat.reduceDiv, Int.reduceAdd, Int.reduceSub, Int.reduceMul, Int.reduceLT, Int.reduceLE, Int.reduceEq, Int.reduceNeg, Int.reduceToNat, reduceIte, reduceCtorEq]
  intro b2 b3 hb3
  exact ⟨_, List.Sublist.refl _, b2, b3, hb3.2, rfl, rfl⟩
theorem merge_ok {Hf : Hp} {l m : List Sl} {v u : Value} (hd : derE Hf Hf) (hm : marksOf Hf = []) (hl : SlR Hf l v) (hu : SlR Hf m u) : CallsV Try.prog 20 [v, u] Hf (OutE 31 (mergeR l m)) := by
  refine callsO gB_ok Try.mix Try.pl20 Try.func20 rfl Try.ntmps20 Try.results20 rfl (by first | rfl | assumption) (Nat.le_of_ble_eq_true rfl) (by kernel_rfl) ?_
  simp only [push_cast, Nat.reduceAdd, Nat.reduceSub, Nat.reduceMul, Nat.reduceLT, Nat.reduceLeDiff, Nat.reduceEqDiff, Nat.reduceMod, Nat.reduceDiv, Int.reduceAdd, Int.reduceSub, Int.reduceMul, Int.reduceLT, Int.reduceLE, Int.reduceEq, Int.reduceNeg, Int.reduceToNat, reduceIte, reduceCtorEq]
  obtain ⟨Hl, hl1, hl2⟩ := hl.h
  obtain ⟨Hu, hu1, hu2⟩ := hu.h
  refine (right_ok hl1).pure hl2 ?_
  simp only [push_cast, Nat.reduceAdd, Nat.reduceSub, Nat.reduceMul, Nat.reduceLT, Nat.reduceLeDiff, Nat.reduceEqDiff, Nat.reduceMod, Nat.reduceDiv, Int.reduceAdd, Int.reduceSub, Int.reduceMul, Int.reduceLT, Int.reduceLE, Int.reduceEq, Int.reduceNeg, Int.reduceToNat, reduceIte, reduceCtorEq]
  cases hr : rightB l with
  | false =>
    simp only [push_cast, Nat.reduceAdd, Nat.reduceSub, Nat.reduceMul, Nat.reduceLT, Nat.reduceLeDiff, Nat.reduceEqDiff, Nat.reduceMod, Nat.reduceDiv, Int.reduceAdd, Int.reduceSub, Int.reduceMul, Int.reduceLT, Int.reduceLE, Int.reduceEq, Int.reduceNeg, Int.reduceToNat, reduceIte, reduceCtorEq]
    exact ⟨[], List.nil_sublist _, _, by simp [mergeR, hr], .inl ⟨by simp [mergeR, hr], rfl, rfl⟩⟩
  | true =>
  simp only [push_cast, Nat.reduceAdd, Nat.reduceSub, Nat.reduceMul, Nat.reduceLT, Nat.reduceLeDiff, Nat.reduceEqDiff, Nat.reduceMod, Nat.reduceDiv, Int.reduceAdd, Int.reduceSub, Int.reduceMul, Int.reduceLT, Int.reduceLE, Int.reduceEq, Int.reduceNeg, Int.reduceToNat, reduceIte, reduceCtorEq]
  refine (patch_ok hu1).pure hu2 ?_
  simp only [push_cast, Nat.reduceAdd, Nat.reduceSub, Nat.reduceMul, Nat.reduceLT, Nat.reduceLeDiff, Nat.reduceEqDiff, Nat.reduceMod, Nat.reduceDiv, Int.reduceAdd, Int.reduceSub, Int.reduceMul, Int.reduceLT, Int.reduceLE, Int.reduceEq, Int.reduceNeg, Int.reduceToNat, reduceIte, reduceCtorEq]
  cases hp : patchB m with
  | false =>
    simp only [push_cast, Nat.reduceAdd, Nat.reduceSub, Nat.reduceMul, Nat.reduceLT, Nat.reduceLeDiff, Nat.reduceEqDiff, Nat.reduceMod, Nat.reduceDiv, Int.reduceAdd, Int.reduceSub, Int.reduceMul, Int.reduceLT, Int.reduceLE, Int.reduceEq, Int.reduceNeg, Int.reduceToNat, reduceIte, reduceCtorEq]
    exact ⟨[], List.nil_sublist _, _, by simp [mergeR, hr, hp], .inl ⟨by simp [mergeR, hr, hp], rfl, rfl⟩⟩
  | true =>
  simp only [push_cast, Nat.reduceAdd, Nat.reduceSub, Nat.reduceMul, Nat.reduceLT, Nat.reduceLeDiff, Nat.reduceEqDiff, Nat.reduceMod, Nat.reduceDiv, Int.reduceAdd, Int.reduceSub, Int.reduceMul, Int.reduceLT, Int.reduceLE, Int.reduceEq, Int.reduceNeg, Int.reduceToNat, reduceIte, reduceCtorEq]
  have ln1 := rightB_len hr
  have ln2 := patchB_len hp
  intro b6 hb6
  obtain ⟨Hl3, hl3, hl4⟩ := (hl.cons (e := ⟨b6, 0, .cel 22, [.slice none 0 0]⟩) hb6).h
  refine (of_ok hl3 (by omega)).use hl4 ?_
  rintro _ N1 ⟨w1, rfl, ho1⟩
  refine ⟨ho1.wr.1, ho1.wr.2, fun hf1 => ?_⟩
  try simp only [push_cast, Nat.reduceAdd, Nat.reduceSub, Nat.reduceMul, Nat.reduceLT, Nat.reduceLeDiff, Nat.reduceEqDiff, Nat.reduceMod, Nat.reduceDiv, Int.reduceAdd, Int.reduceSub, Int.reduceMul, Int.reduceLT, Int.reduceLE, Int.reduceEq, Int.reduceNeg, Int.reduceToNat, reduceIte, reduceCtorEq]
  obtain ⟨Hu3, hu3, hu4⟩ := ((hu.cons (e := ⟨b6, 0, .cel 22, [.slice none 0 0]⟩) hb6).app hf1 ho1.pair).h
  refine (of_ok hu3 (by omega)).use hu4 ?_
  rintro _ N2 ⟨w2, rfl, ho2⟩
  refine ⟨ho2.wr.1, ho2.wr.2, fun hf2 => ?_⟩
  try simp only [push_cast, Nat.reduceAdd, Nat.reduceSub, Nat.reduceMul, Nat.reduceLT, Nat.reduceLeDiff, Nat.reduceEqDiff, Nat.reduceMod, Nat.reduceDiv, Int.reduceAdd, Int.reduceSub, Int.reduceMul, Int.reduceLT, Int.reduceLE, Int.reduceEq, Int.reduceNeg, Int.reduceToNat, reduceIte, reduceCtorEq]
  refine (with_ok (w1, _) (w2, _)).use trivial ?_
  rintro _ _ ⟨b2, b3, hb23, rfl, rfl⟩
  refine ⟨⟨trivial, trivial, trivial⟩, rfl, fun hf3 => ?_⟩
  try simp only [push_cast, Nat.reduceAdd, Nat.reduceSub, Nat.reduceMul, Nat.reduceLT, Nat.reduceLeDiff, Nat.reduceEqDiff, Nat.reduceMod, Nat.reduceDiv, Int.reduceAdd, Int.reduceSub, Int.reduceMul, Int.reduceLT, Int.reduceLE, Int.reduceEq, Int.reduceNeg, Int.reduceToNat, reduceIte, reduceCtorEq]
  have hf23 := freshN_ne hf3
  have hf21 := freshN_ne hf2
  obtain ⟨bb, hsb⟩ := ho2.suf (A := [⟨b3, 0, .cel 52, [w2, .func (.func 35) #[] #[]]⟩, ⟨b2, 0, .cel 52, [w1, .func (.func 35) #[] #[]]⟩]) (B := N1)
    (fun x hx y hy h => hf23 x hx y (by simp [hy]) h.symm)
  obtain ⟨ba, hsa⟩ := ho1.suf (A := ⟨b3, 0, .cel 52, [w2, .func (.func 35) #[] #[]]⟩ :: ⟨b2, 0, .cel 52, [w1, .func (.func 35) #[] #[]]⟩ :: N2) (B := []) (fun x hx y hy h => by
    rcases List.mem_append.1 (show x ∈ [_, _] ++ N2 from hx) with hx | hx
    · exact hf23 x hx y (by simp [hy]) h.symm
    · exact hf21 x hx y (by simp [hy]) h.symm)
  rw [List.append_nil] at hsa
  refine rangeO gB_ok (pl := Try.pl20) Try.mix (Hc := ⟨b3, 0, .cel 52, [w2, .func (.func 35) #[] #[]]⟩ :: ⟨b2, 0, .cel 52, [w1, .func (.func 35) #[] #[]]⟩ :: (N2 ++ N1)) (Hm := [])
    (with1_ok (a := l) (b := m) (b2 := b2) (b3 := b3) (by omega) (by simp [marksOf, marks_append, ho1.wr.2, ho2.wr.2]) (by simp [findE, hb23]) (by simp [findE]) hsa hsb) rfl
    (X := {x : List Sl × Value × Hp // allWr x.2.2 ∧ marksOf x.2.2 = []}) (fun x => ⟨b6, 0, .cel 22, [x.1.2.1]⟩ :: x.1.2.2)
    (fun k x => x.1.1 = ((joinS l m).take k).filterMap pickM ∧ OutS 31 x.1.1 x.1.2.1 x.1.2.2 ∧ freshN x.1.2.2 [⟨b6, 0, .ro, []⟩]) (fun _ _ => False) ⟨([], .slice none 0 0, []), trivial, rfl⟩
    ⟨rfl, .inl ⟨rfl, rfl, rfl⟩, trivial⟩ ?_ ?_ ?_ (by simp) (fun x => by simp [marksOf, x.2.2]) (fun x y e he => .inl ?_) ?_ (by kernel_rfl) (by kernel_rfl) (fun _ _ h => h.elim) ?_ ?_ (fun _ _ _ _ h => h.elim)
  · have h := subH_app Hf (⟨b3, 0, .cel 52, [w2, .func (.func 35) #[] #[]]⟩ :: ⟨b2, 0, .cel 52, [w1, .func (.func 35) #[] #[]]⟩ :: (N2 ++ (N1 ++ [⟨b6, 0, .cel 22, [.slice none 0 0]⟩])))
    simpa only [List.cons_append, List.append_assoc, List.nil_append, List.append_nil] using h
  · simp [marksOf, marks_append, ho1.wr.2, ho2.wr.2, hm]
  · simp [marksOf, marks_append, ho1.wr.2, ho2.wr.2]
  · rcases List.mem_cons.1 he with rfl | he
    · exact trivial
    · exact allWr_mem y.2.1 e he
  · intro args ha
    obtain ⟨y, _, rfl⟩ := List.mem_map.1 ha
    rfl
  · rintro lo k ⟨⟨L, w, N⟩, hx1, hx2⟩ args hk ⟨hL, hO, hF⟩
    dsimp only at hx1 hx2 hL hO hF ⊢
    rw [List.getElem?_map] at hk
    obtain ⟨y, hy, rfl⟩ := Option.map_eq_some_iff.1 hk
    have hstep : ((joinS l m).take (k + 1)).filterMap pickM = L ++ (pickM y).toList := by
      rw [List.take_add_one, hy, List.filterMap_append, ← hL]
      cases h : pickM y <;> simp [h]
    have hlen : L.length ≤ 2000 := by
      have h1 := joinS_len l m
      have h2 : L.length ≤ (joinS l m).length := by rw [hL]; exact Nat.le_trans (List.length_filterMap_le ..) (by simp; omega)
      omega
    simp only [push_cast, Nat.reduceAdd, Nat.reduceSub, Nat.reduceMul, Nat.reduceLT, Nat.reduceLeDiff, Nat.reduceEqDiff, Nat.reduceMod, Nat.reduceDiv, Int.reduceAdd, Int.reduceSub, Int.reduceMul, Int.reduceLT, Int.reduceLE, Int.reduceEq, Int.reduceNeg, Int.reduceToNat, reduceIte, reduceCtorEq]
    intro b7 hb7
    simp only [push_cast, Nat.reduceAdd, Nat.reduceSub, Nat.reduceMul, Nat.reduceLT, Nat.reduceLeDiff, Nat.reduceEqDiff, Nat.reduceMod, Nat.reduceDiv, Int.reduceAdd, Int.reduceSub, Int.reduceMul, Int.reduceLT, Int.reduceLE, Int.reduceEq, Int.reduceNeg, Int.reduceToNat, reduceIte, reduceCtorEq, hb7]
    refine ⟨hx2, roSub_of fun e he => .inl (allWr_mem hx1 e he), fun b8 hb8 => ?_⟩
    obtain ⟨z, hz⟩ : ∃ z, z = (if y.inB then y.b else y.a) := ⟨_, rfl⟩
    have hpk : pickM y = if z = W.zero then none else some ⟨y.key, z⟩ := by rw [hz]; rfl
    by_cases hz0 : z = W.zero
    · have hd0 : decide (z = W.zero) = true := by simpa using hz0
      rw [hpk, if_pos hz0] at hstep
      refine (show _ from ?_)
      cases hi : y.inB
      all_goals
        simp only [hi, Bool.false_eq_true, if_false, if_true] at hz
        subst hz
        simp only [push_cast, Nat.reduceAdd, Nat.reduceSub, Nat.reduceMul, Nat.reduceLT, Nat.reduceLeDiff, Nat.reduceEqDiff, Nat.reduceMod, Nat.reduceDiv, Int.reduceAdd, Int.reduceSub, Int.reduceMul, Int.reduceLT, Int.reduceLE, Int.reduceEq, Int.reduceNeg, Int.reduceToNat, reduceIte, reduceCtorEq, hb7, hb8, hi, hd0, Nat.zero_le]
        refine ⟨⟨(L, w, N), hx1, hx2⟩, ⟨by rw [hstep]; simp, hO, hF⟩, ?_⟩
        simp only [push_cast, Nat.reduceAdd, Nat.reduceSub, Nat.reduceMul, Nat.reduceLT, Nat.reduceLeDiff, Nat.reduceEqDiff, Nat.reduceMod, Nat.reduceDiv, Int.reduceAdd, Int.reduceSub, Int.reduceMul, Int.reduceLT, Int.reduceLE, Int.reduceEq, Int.reduceNeg, Int.reduceToNat, reduceIte, reduceCtorEq, hb7, hb8]
    · have hd0 : decide (z = W.zero) = false := by simpa using hz0
      rw [hpk, if_neg hz0] at hstep
      rcases hO with ⟨h0, rfl, rfl⟩ | ⟨bo, co, h0, rfl, hco, rfl⟩
      · cases hi : y.inB
        all_goals
          simp only [hi, Bool.false_eq_true, if_false, if_true] at hz
          subst hz
          simp only [push_cast, Nat.reduceAdd, Nat.reduceSub, Nat.reduceMul, Nat.reduceLT, Nat.reduceLeDiff, Nat.reduceEqDiff, Nat.reduceMod, Nat.reduceDiv, Int.reduceAdd, Int.reduceSub, Int.reduceMul, Int.reduceLT, Int.reduceLE, Int.reduceEq, Int.reduceNeg, Int.reduceToNat, reduceIte, reduceCtorEq, hb7, hb8, hi, hd0, Nat.zero_le]
          intro b9 hb9
          simp only [push_cast, Nat.reduceAdd, Nat.reduceSub, Nat.reduceMul, Nat.reduceLT, Nat.reduceLeDiff, Nat.reduceEqDiff, Nat.reduceMod, Nat.reduceDiv, Int.reduceAdd, Int.reduceSub, Int.reduceMul, Int.reduceLT, Int.reduceLE, Int.reduceEq, Int.reduceNeg, Int.reduceToNat, reduceIte, reduceCtorEq, hb7, hb8, hb9, Sl.pair]
          refine ⟨by unfold two47; omega, fun b10 c10 hb10 hc10 => ?_⟩
          simp only [push_cast, Nat.reduceAdd, Nat.reduceSub, Nat.reduceMul, Nat.reduceLT, Nat.reduceLeDiff, Nat.reduceEqDiff, Nat.reduceMod, Nat.reduceDiv, Int.reduceAdd, Int.reduceSub, Int.reduceMul, Int.reduceLT, Int.reduceLE, Int.reduceEq, Int.reduceNeg, Int.reduceToNat, reduceIte, reduceCtorEq, hb7, hb8, hb9, hb10, roundK]
          subst h0
          refine ⟨⟨([⟨y.key, _⟩], .slice (some ⟨b10, 0, none⟩) 1 c10, [⟨b10, 0, .vec 31 8 c10, slC [⟨y.key, _⟩]⟩]), ⟨trivial, trivial⟩, rfl⟩, ⟨hstep.symm, .inr ⟨b10, c10, by simp, rfl, hc10, rfl⟩, ?_⟩, ?_⟩
          · simp only [push_cast, Nat.reduceAdd, Nat.reduceSub, Nat.reduceMul, Nat.reduceLT, Nat.reduceLeDiff, Nat.reduceEqDiff, Nat.reduceMod, Nat.reduceDiv, Int.reduceAdd, Int.reduceSub, Int.reduceMul, Int.reduceLT, Int.reduceLE, Int.reduceEq, Int.reduceNeg, Int.reduceToNat, reduceIte, reduceCtorEq, hb10]
          · simp only [push_cast, Nat.reduceAdd, Nat.reduceSub, Nat.reduceMul, Nat.reduceLT, Nat.reduceLeDiff, Nat.reduceEqDiff, Nat.reduceMod, Nat.reduceDiv, Int.reduceAdd, Int.reduceSub, Int.reduceMul, Int.reduceLT, Int.reduceLE, Int.reduceEq, Int.reduceNeg, Int.reduceToNat, reduceIte, reduceCtorEq, hb10, hb9, hb8, hb7]
      · simp only [push_cast, Nat.reduceAdd, Nat.reduceSub, Nat.reduceMul, Nat.reduceLT, Nat.reduceLeDiff, Nat.reduceEqDiff, Nat.reduceMod, Nat.reduceDiv, Int.reduceAdd, Int.reduceSub, Int.reduceMul, Int.reduceLT, Int.reduceLE, Int.reduceEq, Int.reduceNeg, Int.reduceToNat, reduceIte, reduceCtorEq] at hF hb7 hb8
        cases hi : y.inB
        all_goals
          simp only [hi, Bool.false_eq_true, if_false, if_true] at hz
          subst hz
          simp only [push_cast, Nat.reduceAdd, Nat.reduceSub, Nat.reduceMul, Nat.reduceLT, Nat.reduceLeDiff, Nat.reduceEqDiff, Nat.reduceMod, Nat.reduceDiv, Int.reduceAdd, Int.reduceSub, Int.reduceMul, Int.reduceLT, Int.reduceLE, Int.reduceEq, Int.reduceNeg, Int.reduceToNat, reduceIte, reduceCtorEq, hb7, hb8, hi, hd0, hF, Nat.zero_le]
          intro b9 hb9
          simp only [push_cast, Nat.reduceAdd, Nat.reduceSub, Nat.reduceMul, Nat.reduceLT, Nat.reduceLeDiff, Nat.reduceEqDiff, Nat.reduceMod, Nat.reduceDiv, Int.reduceAdd, Int.reduceSub, Int.reduceMul, Int.reduceLT, Int.reduceLE, Int.reduceEq, Int.reduceNeg, Int.reduceToNat, reduceIte, reduceCtorEq, hb7, hb8, hb9, hF, Sl.pair, slC_len]
          refine ⟨by unfold two47; omega, fun b10 c10 hb10 hc10 => ?_⟩
          simp only [push_cast, Nat.reduceAdd, Nat.reduceSub, Nat.reduceMul, Nat.reduceLT, Nat.reduceLeDiff, Nat.reduceEqDiff, Nat.reduceMod, Nat.reduceDiv, Int.reduceAdd, Int.reduceSub, Int.reduceMul, Int.reduceLT, Int.reduceLE, Int.reduceEq, Int.reduceNeg, Int.reduceToNat, reduceIte, reduceCtorEq, hb7, hb8, hb9, hb10, hF, roundK]
          refine ⟨⟨(L ++ [⟨y.key, _⟩], .slice (some ⟨b10, 0, none⟩) (L.length + 1) c10, [⟨b10, 0, .vec 31 8 c10, slC (L ++ [⟨y.key, _⟩])⟩]), ⟨trivial, trivial⟩, rfl⟩, ⟨hstep.symm, .inr ⟨b10, c10, by simp, by simp, by simpa using hc10, rfl⟩, ?_⟩, ?_⟩
          · simp only [push_cast, Nat.reduceAdd, Nat.reduceSub, Nat.reduceMul, Nat.reduceLT, Nat.reduceLeDiff, Nat.reduceEqDiff, Nat.reduceMod, Nat.reduceDiv, Int.reduceAdd, Int.reduceSub, Int.reduceMul, Int.reduceLT, Int.reduceLE, Int.reduceEq, Int.reduceNeg, Int.reduceToNat, reduceIte, reduceCtorEq, hb10]
          · simp only [push_cast, Nat.reduceAdd, Nat.reduceSub, Nat.reduceMul, Nat.reduceLT, Nat.reduceLeDiff, Nat.reduceEqDiff, Nat.reduceMod, Nat.reduceDiv, Int.reduceAdd, Int.reduceSub, Int.reduceMul, Int.reduceLT, Int.reduceLE, Int.reduceEq, Int.reduceNeg, Int.reduceToNat, reduceIte, reduceCtorEq, slC_app, hb10, hb9, hb8, hb7]
  · rintro D ⟨⟨L, w, N⟩, hx1, hx2⟩ hfD ⟨hL, hO, hF⟩
    dsimp only at hx1 hx2 hL hO hF hfD ⊢
    have hL' : L = mergeL l m := by rw [hL, List.length_map, List.take_length]; rfl
    subst hL'
    rcases hO with ⟨h0, rfl, rfl⟩ | ⟨bo, co, h0, rfl, hco, rfl⟩
    · simp only [push_cast, Nat.reduceAdd, Nat.reduceSub, Nat.reduceMul, Nat.reduceLT, Nat.reduceLeDiff, Nat.reduceEqDiff, Nat.reduceMod, Nat.reduceDiv, Int.reduceAdd, Int.reduceSub, Int.reduceMul, Int.reduceLT, Int.reduceLE, Int.reduceEq, Int.reduceNeg, Int.reduceToNat, reduceIte, reduceCtorEq] at hfD
      simp only [push_cast, Nat.reduceAdd, Nat.reduceSub, Nat.reduceMul, Nat.reduceLT, Nat.reduceLeDiff, Nat.reduceEqDiff, Nat.reduceMod, Nat.reduceDiv, Int.reduceAdd, Int.reduceSub, Int.reduceMul, Int.reduceLT, Int.reduceLE, Int.reduceEq, Int.reduceNeg, Int.reduceToNat, reduceIte, reduceCtorEq, hfD]
      refine (limited_ok _ _ _).pure trivial ?_
      simp only [push_cast, Nat.reduceAdd, Nat.reduceSub, Nat.reduceMul, Nat.reduceLT, Nat.reduceLeDiff, Nat.reduceEqDiff, Nat.reduceMod, Nat.reduceDiv, Int.reduceAdd, Int.reduceSub, Int.reduceMul, Int.reduceLT, Int.reduceLE, Int.reduceEq, Int.reduceNeg, Int.reduceToNat, reduceIte, reduceCtorEq, Nat.not_lt_zero, List.getElem?_toArray]
      exact ⟨[], List.nil_sublist _, _, by simp [mergeR, hr, hp, limR, h0], .inl ⟨by simp [mergeR, hr, hp, limR, h0], rfl, rfl⟩⟩
    · simp only [push_cast, Nat.reduceAdd, Nat.reduceSub, Nat.reduceMul, Nat.reduceLT, Nat.reduceLeDiff, Nat.reduceEqDiff, Nat.reduceMod, Nat.reduceDiv, Int.reduceAdd, Int.reduceSub, Int.reduceMul, Int.reduceLT, Int.reduceLE, Int.reduceEq, Int.reduceNeg, Int.reduceToNat, reduceIte, reduceCtorEq] at hfD
      simp only [push_cast, Nat.reduceAdd, Nat.reduceSub, Nat.reduceMul, Nat.reduceLT, Nat.reduceLeDiff, Nat.reduceEqDiff, Nat.reduceMod, Nat.reduceDiv, Int.reduceAdd, Int.reduceSub, Int.reduceMul, Int.reduceLT, Int.reduceLE, Int.reduceEq, Int.reduceNeg, Int.reduceToNat, reduceIte, reduceCtorEq, hfD]
      refine (limited_ok _ _ _).pure trivial ?_
      rcases Nat.lt_or_ge 1000 (mergeL l m).length with h | h
      · simp only [push_cast, Nat.reduceAdd, Nat.reduceSub, Nat.reduceMul, Nat.reduceLT, Nat.reduceLeDiff, Nat.reduceEqDiff, Nat.reduceMod, Nat.reduceDiv, Int.reduceAdd, Int.reduceSub, Int.reduceMul, Int.reduceLT, Int.reduceLE, Int.reduceEq, Int.reduceNeg, Int.reduceToNat, reduceIte, reduceCtorEq, h]
        exact ⟨[], List.nil_sublist _, _, by simp [mergeR, hr, hp, limR, h], .inl ⟨by simp [mergeR, hr, hp, limR, h], rfl, rfl⟩⟩
      · have h' : ¬ 1000 < (mergeL l m).length := by omega
        simp only [push_cast, Nat.reduceAdd, Nat.reduceSub, Nat.reduceMul, Nat.reduceLT, Nat.reduceLeDiff, Nat.reduceEqDiff, Nat.reduceMod, Nat.reduceDiv, Int.reduceAdd, Int.reduceSub, Int.reduceMul, Int.reduceLT, Int.reduceLE, Int.reduceEq, Int.reduceNeg, Int.reduceToNat, reduceIte, reduceCtorEq, h']
        have h'' : mergeR l m = (mergeL l m, 0) := by simp [mergeR, hr, hp, limR, h']
        exact ⟨_, (List.Sublist.refl _).cons _, _, by rw [h''], by rw [h'']; exact .inr ⟨bo, co, h0, rfl, hco, rfl⟩⟩
theorem diff_ok {Hf : Hp} {l m : List Sl} {v u : Value} (hd : derE Hf Hf) (hm : marksOf Hf = []) (hl : SlR Hf l v) (hu : SlR Hf m u) : CallsV Try.prog 22 [v, u] Hf (OutE 31 (diffR l m)) := by
  refine callsO gB_ok Try.mix Try.pl22 Try.func22 rfl Try.ntmps22 Try.results22 rfl (by first | rfl | assumption) (Nat.le_of_ble_eq_true rfl) (by kernel_rfl) ?_
  simp only [push_cast, Nat.reduceAdd, Nat.reduceSub, Nat.reduceMul, Nat.reduceLT, Nat.reduceLeDiff, Nat.reduceEqDiff, Nat.reduceMod, Nat.reduceDiv, Int.reduceAdd, Int.reduceSub, Int.reduceMul, Int.reduceLT, Int.reduceLE, Int.reduceEq, Int.reduceNeg, Int.reduceToNat, reduceIte, reduceCtorEq]
  obtain ⟨Hl, hl1, hl2⟩ := hl.h
  obtain ⟨Hu, hu1, hu2⟩ := hu.h
  refine (right_ok hl1).pure hl2 ?_
  simp only [push_cast, Nat.reduceAdd, Nat.reduceSub, Nat.reduceMul, Nat.reduceLT, Nat.reduceLeDiff, Nat.reduceEqDiff, Nat.reduceMod, Nat.reduceDiv, Int.reduceAdd, Int.reduceSub, Int.reduceMul, Int.reduceLT, Int.reduceLE, Int.reduceEq, Int.reduceNeg, Int.reduceToNat, reduceIte, reduceCtorEq]
  cases hr : rightB l with
  | false =>
    simp only [push_cast, Nat.reduceAdd, Nat.reduceSub, Nat.reduceMul, Nat.reduceLT, Nat.reduceLeDiff, Nat.reduceEqDiff, Nat.reduceMod, Nat.reduceDiv, Int.reduceAdd, Int.reduceSub, Int.reduceMul, Int.reduceLT, Int.reduceLE, Int.reduceEq, Int.reduceNeg, Int.reduceToNat, reduceIte, reduceCtorEq]
    exact ⟨[], List.nil_sublist _, _, by simp [diffR, hr], .inl ⟨by simp [diffR, hr], rfl, rfl⟩⟩
  | true =>
  simp only [push_cast, Nat.reduceAdd, Nat.reduceSub, Nat.reduceMul, Nat.reduceLT, Nat.reduceLeDiff, Nat.reduceEqDiff, Nat.reduceMod, Nat.reduceDiv, Int.reduceAdd, Int.reduceSub, Int.reduceMul, Int.reduceLT, Int.reduceLE, Int.reduceEq, Int.reduceNeg, Int.reduceToNat, reduceIte, reduceCtorEq]
  refine (right_ok hu1).pure hu2 ?_
  simp only [push_cast, Nat.reduceAdd, Nat.reduceSub, Nat.reduceMul, Nat.reduceLT, Nat.reduceLeDiff, Nat.reduceEqDiff, Nat.reduceMod, Nat.reduceDiv, Int.reduceAdd, Int.reduceSub, Int.reduceMul, Int.reduceLT, Int.reduceLE, Int.reduceEq, Int.reduceNeg, Int.reduceToNat, reduceIte, reduceCtorEq]
  cases hp : rightB m with
  | false =>
    simp only [push_cast, Nat.reduceAdd, Nat.reduceSub, Nat.reduceMul, Nat.reduceLT, Nat.reduceLeDiff, Nat.reduceEqDiff, Nat.reduceMod, Nat.reduceDiv, Int.reduceAdd, Int.reduceSub, Int.reduceMul, Int.reduceLT, Int.reduceLE, Int.reduceEq, Int.reduceNeg, Int.reduceToNat, reduceIte, reduceCtorEq]
    exact ⟨[], List.nil_sublist _, _, by simp [diffR, hr, hp], .inl ⟨by simp [diffR, hr, hp], rfl, rfl⟩⟩
  | true =>
  simp only [push_cast, Nat.reduceAdd, Nat.reduceSub, Nat.reduceMul, Nat.reduceLT, Nat.reduceLeDiff, Nat.reduceEqDiff, Nat.reduceMod, Nat.reduceDiv, Int.reduceAdd, Int.reduceSub, Int.reduceMul, Int.reduceLT, Int.reduceLE, Int.reduceEq, Int.reduceNeg, Int.reduceToNat, reduceIte, reduceCtorEq]
  have ln1 := rightB_len hr
  have ln2 := rightB_len hp
  intro b6 hb6
  obtain ⟨Hl3, hl3, hl4⟩ := (hl.cons (e := ⟨b6, 0, .cel 22, [.slice none 0 0]⟩) hb6).h
  refine (of_ok hl3 (by omega)).use hl4 ?_
  rintro _ N1 ⟨w1, rfl, ho1⟩
  refine ⟨ho1.wr.1, ho1.wr.2, fun hf1 => ?_⟩
  try simp only [push_cast, Nat.reduceAdd, Nat.reduceSub, Nat.reduceMul, Nat.reduceLT, Nat.reduceLeDiff, Nat.reduceEqDiff, Nat.reduceMod, Nat.reduceDiv, Int.reduceAdd, Int.reduceSub, Int.reduceMul, Int.reduceLT, Int.reduceLE, Int.reduceEq, Int.reduceNeg, Int.reduceToNat, reduceIte, reduceCtorEq]
  obtain ⟨Hu3, hu3, hu4⟩ := ((hu.cons (e := ⟨b6, 0, .cel 22, [.slice none 0 0]⟩) hb6).app hf1 ho1.pair).h
  refine (of_ok hu3 (by omega)).use hu4 ?_
  rintro _ N2 ⟨w2, rfl, ho2⟩
  refine ⟨ho2.wr.1, ho2.wr.2, fun hf2 => ?_⟩
  try simp only [push_cast, Nat.reduceAdd, Nat.reduceSub, Nat.reduceMul, Nat.reduceLT, Nat.reduceLeDiff, Nat.reduceEqDiff, Nat.reduceMod, Nat.reduceDiv, Int.reduceAdd, Int.reduceSub, Int.reduceMul, Int.reduceLT, Int.reduceLE, Int.reduceEq, Int.reduceNeg, Int.reduceToNat, reduceIte, reduceCtorEq]
  refine (with_ok (w1, _) (w2, _)).use trivial ?_
  rintro _ _ ⟨b2, b3, hb23, rfl, rfl⟩
  refine ⟨⟨trivial, trivial, trivial⟩, rfl, fun hf3 => ?_⟩
  try simp only [push_cast, Nat.reduceAdd, Nat.reduceSub, Nat.reduceMul, Nat.reduceLT, Nat.reduceLeDiff, Nat.reduceEqDiff, Nat.reduceMod, Nat.reduceDiv, Int.reduceAdd, Int.reduceSub, Int.reduceMul, Int.reduceLT, Int.reduceLE, Int.reduceEq, Int.reduceNeg, Int.reduceToNat, reduceIte, reduceCtorEq]
  have hf23 := freshN_ne hf3
  have hf21 := freshN_ne hf2
  obtain ⟨bb, hsb⟩ := ho2.suf (A := [⟨b3, 0, .cel 52, [w2, .func (.func 35) #[] #[]]⟩, ⟨b2, 0, .cel 52, [w1, .func (.func 35) #[] #[]]⟩]) (B := N1)
    (fun x hx y hy h => hf23 x hx y (by simp [hy]) h.symm)
  obtain ⟨ba, hsa⟩ := ho1.suf (A := ⟨b3, 0, .cel 52, [w2, .func (.func 35) #[] #[]]⟩ :: ⟨b2, 0, .cel 52, [w1, .func (.func 35) #[] #[]]⟩ :: N2) (B := []) (fun x hx y hy h => by
    rcases List.mem_append.1 (show x ∈ [_, _] ++ N2 from hx) with hx | hx
    · exact hf23 x hx y (by simp [hy]) h.symm
    · exact hf21 x hx y (by simp [hy]) h.symm)
  rw [List.append_nil] at hsa
  refine rangeO gB_ok (pl := Try.pl22) Try.mix (Hc := ⟨b3, 0, .cel 52, [w2, .func (.func 35) #[] #[]]⟩ :: ⟨b2, 0, .cel 52, [w1, .func (.func 35) #[] #[]]⟩ :: (N2 ++ N1)) (Hm := [])
    (with1_ok (a := l) (b := m) (b2 := b2) (b3 := b3) (by omega) (by simp [marksOf, marks_append, ho1.wr.2, ho2.wr.2]) (by simp [findE, hb23]) (by simp [findE]) hsa hsb) rfl
    (X := {x : List Sl × Value × Hp // allWr x.2.2 ∧ marksOf x.2.2 = []}) (fun x => ⟨b6, 0, .cel 22, [x.1.2.1]⟩ :: x.1.2.2)
    (fun k x => x.1.1 = ((joinS l m).take k).filterMap pickD ∧ OutS 31 x.1.1 x.1.2.1 x.1.2.2 ∧ freshN x.1.2.2 [⟨b6, 0, .ro, []⟩]) (fun _ _ => False) ⟨([], .slice none 0 0, []), trivial, rfl⟩
    ⟨rfl, .inl ⟨rfl, rfl, rfl⟩, trivial⟩ ?_ ?_ ?_ (by simp) (fun x => by simp [marksOf, x.2.2]) (fun x y e he => .inl ?_) ?_ (by kernel_rfl) (by kernel_rfl) (fun _ _ h => h.elim) ?_ ?_ (fun _ _ _ _ h => h.elim)
  · have h := subH_app Hf (⟨b3, 0, .cel 52, [w2, .func (.func 35) #[] #[]]⟩ :: ⟨b2, 0, .cel 52, [w1, .func (.func 35) #[] #[]]⟩ :: (N2 ++ (N1 ++ [⟨b6, 0, .cel 22, [.slice none 0 0]⟩])))
    simpa only [List.cons_append, List.append_assoc, List.nil_append, List.append_nil] using h
  · simp [marksOf, marks_append, ho1.wr.2, ho2.wr.2, hm]
  · simp [marksOf, marks_append, ho1.wr.2, ho2.wr.2]
  · rcases List.mem_cons.1 he with rfl | he
    · exact trivial
    · exact allWr_mem y.2.1 e he
  · intro args ha
    obtain ⟨y, _, rfl⟩ := List.mem_map.1 ha
    rfl
  · rintro lo k ⟨⟨L, w, N⟩, hx1, hx2⟩ args hk ⟨hL, hO, hF⟩
    dsimp only at hx1 hx2 hL hO hF ⊢
    rw [List.getElem?_map] at hk
    obtain ⟨y, hy, rfl⟩ := Option.map_eq_some_iff.1 hk
    have hstep : ((joinS l m).take (k + 1)).filterMap pickD = L ++ (pickD y).toList := by
      rw [List.take_add_one, hy, List.filterMap_append, ← hL]
      cases h : pickD y <;> simp [h]
    have hlen : L.length ≤ 2000 := by
      have h1 := joinS_len l m
      have h2 : L.length ≤ (joinS l m).length := by rw [hL]; exact Nat.le_trans (List.length_filterMap_le ..) (by simp; omega)
      omega
    simp only [push_cast, Nat.reduceAdd, Nat.reduceSub, Nat.reduceMul, Nat.reduceLT, Nat.reduceLeDiff, Nat.reduceEqDiff, Nat.reduceMod, Nat.reduceDiv, Int.reduceAdd, Int.reduceSub, Int.reduceMul, Int.reduceLT, Int.reduceLE, Int.reduceEq, Int.reduceNeg, Int.reduceToNat, reduceIte, reduceCtorEq]
    intro b7 hb7
    simp only [push_cast, Nat.reduceAdd, Nat.reduceSub, Nat.reduceMul, Nat.reduceLT, Nat.reduceLeDiff, Nat.reduceEqDiff, Nat.reduceMod, Nat.reduceDiv, Int.reduceAdd, Int.reduceSub, Int.reduceMul, Int.reduceLT, Int.reduceLE, Int.reduceEq, Int.reduceNeg, Int.reduceToNat, reduceIte, reduceCtorEq, hb7]
    refine ⟨hx2, roSub_of fun e he => .inl (allWr_mem hx1 e he), ?_⟩
    have hpk : pickD y = if y.a = y.b then none else some ⟨y.key, y.b⟩ := rfl
    by_cases hz0 : y.a = y.b
    · have hd0 : decide (y.a = y.b) = true := by simpa using hz0
      rw [hpk, if_pos hz0] at hstep
      simp only [push_cast, Nat.reduceAdd, Nat.reduceSub, Nat.reduceMul, Nat.reduceLT, Nat.reduceLeDiff, Nat.reduceEqDiff, Nat.reduceMod, Nat.reduceDiv, Int.reduceAdd, Int.reduceSub, Int.reduceMul, Int.reduceLT, Int.reduceLE, Int.reduceEq, Int.reduceNeg, Int.reduceToNat, reduceIte, reduceCtorEq, hb7, hd0]
      refine ⟨⟨(L, w, N), hx1, hx2⟩, ⟨by rw [hstep]; simp, hO, hF⟩, ?_⟩
      simp only [push_cast, Nat.reduceAdd, Nat.reduceSub, Nat.reduceMul, Nat.reduceLT, Nat.reduceLeDiff, Nat.reduceEqDiff, Nat.reduceMod, Nat.reduceDiv, Int.reduceAdd, Int.reduceSub, Int.reduceMul, Int.reduceLT, Int.reduceLE, Int.reduceEq, Int.reduceNeg, Int.reduceToNat, reduceIte, reduceCtorEq, hb7]
    · have hd0 : decide (y.a = y.b) = false := by simpa using hz0
      rw [hpk, if_neg hz0] at hstep
      rcases hO with ⟨h0, rfl, rfl⟩ | ⟨bo, co, h0, rfl, hco, rfl⟩
      · simp only [push_cast, Nat.reduceAdd, Nat.reduceSub, Nat.reduceMul, Nat.reduceLT, Nat.reduceLeDiff, Nat.reduceEqDiff, Nat.reduceMod, Nat.reduceDiv, Int.reduceAdd, Int.reduceSub, Int.reduceMul, Int.reduceLT, Int.reduceLE, Int.reduceEq, Int.reduceNeg, Int.reduceToNat, reduceIte, reduceCtorEq, hb7, hd0]
        intro b9 hb9
        simp only [push_cast, Nat.reduceAdd, Nat.reduceSub, Nat.reduceMul, Nat.reduceLT, Nat.reduceLeDiff, Nat.reduceEqDiff, Nat.reduceMod, Nat.reduceDiv, Int.reduceAdd, Int.reduceSub, Int.reduceMul, Int.reduceLT, Int.reduceLE, Int.reduceEq, Int.reduceNeg, Int.reduceToNat, reduceIte, reduceCtorEq, hb7, hb9, Sl.pair]
        refine ⟨by unfold two47; omega, fun b10 c10 hb10 hc10 => ?_⟩
        simp only [push_cast, Nat.reduceAdd, Nat.reduceSub, Nat.reduceMul, Nat.reduceLT, Nat.reduceLeDiff, Nat.reduceEqDiff, Nat.reduceMod, Nat.reduceDiv, Int.reduceAdd, Int.reduceSub, Int.reduceMul, Int.reduceLT, Int.reduceLE, Int.reduceEq, Int.reduceNeg, Int.reduceToNat, reduceIte, reduceCtorEq, hb7, hb9, hb10, roundK]
        subst h0
        refine ⟨⟨([⟨y.key, _⟩], .slice (some ⟨b10, 0, none⟩) 1 c10, [⟨b10, 0, .vec 31 8 c10, slC [⟨y.key, _⟩]⟩]), ⟨trivial, trivial⟩, rfl⟩, ⟨hstep.symm, .inr ⟨b10, c10, by simp, rfl, hc10, rfl⟩, ?_⟩, ?_⟩
        · simp only [push_cast, Nat.reduceAdd, Nat.reduceSub, Nat.reduceMul, Nat.reduceLT, Nat.reduceLeDiff, Nat.reduceEqDiff, Nat.reduceMod, Nat.reduceDiv, Int.reduceAdd, Int.reduceSub, Int.reduceMul, Int.reduceLT, Int.reduceLE, Int.reduceEq, Int.reduceNeg, Int.reduceToNat, reduceIte, reduceCtorEq, hb10]
        · simp only [push_cast, Nat.reduceAdd, Nat.reduceSub, Nat.reduceMul, Nat.reduceLT, Nat.reduceLeDiff, Nat.reduceEqDiff, Nat.reduceMod, Nat.reduceDiv, Int.reduceAdd, Int.reduceSub, Int.reduceMul, Int.reduceLT, Int.reduceLE, Int.reduceEq, Int.reduceNeg, Int.reduceToNat, reduceIte, reduceCtorEq, hb10, hb9, hb7]
      · simp only [push_cast, Nat.reduceAdd, Nat.reduceSub, Nat.reduceMul, Nat.reduceLT, Nat.reduceLeDiff, Nat.reduceEqDiff, Nat.reduceMod, Nat.reduceDiv, Int.reduceAdd, Int.reduceSub, Int.reduceMul, Int.reduceLT, Int.reduceLE, Int.reduceEq, Int.reduceNeg, Int.reduceToNat, reduceIte, reduceCtorEq] at hF hb7
        simp only [push_cast, Nat.reduceAdd, Nat.reduceSub, Nat.reduceMul, Nat.reduceLT, Nat.reduceLeDiff, Nat.reduceEqDiff, Nat.reduceMod, Nat.reduceDiv, Int.reduceAdd, Int.reduceSub, Int.reduceMul, Int.reduceLT, Int.reduceLE, Int.reduceEq, Int.reduceNeg, Int.reduceToNat, reduceIte, reduceCtorEq, hb7, hd0, hF]
        intro b9 hb9
        simp only [push_cast, Nat.reduceAdd, Nat.reduceSub, Nat.reduceMul, Nat.reduceLT, Nat.reduceLeDiff, Nat.reduceEqDiff, Nat.reduceMod, Nat.reduceDiv, Int.reduceAdd, Int.reduceSub, Int.reduceMul, Int.reduceLT, Int.reduceLE, Int.reduceEq, Int.reduceNeg, Int.reduceToNat, reduceIte, reduceCtorEq, hb7, hb9, hF, Sl.pair, slC_len]
        refine ⟨by unfold two47; omega, fun b10 c10 hb10 hc10 => ?_⟩
        simp only [push_cast, Nat.reduceAdd, Nat.reduceSub, Nat.reduceMul, Nat.reduceLT, Nat.reduceLeDiff, Nat.reduceEqDiff, Nat.reduceMod, Nat.reduceDiv, Int.reduceAdd, Int.reduceSub, Int.reduceMul, Int.reduceLT, Int.reduceLE, Int.reduceEq, Int.reduceNeg, Int.reduceToNat, reduceIte, reduceCtorEq, hb7, hb9, hb10, hF, roundK]
        refine ⟨⟨(L ++ [⟨y.key, _⟩], .slice (some ⟨b10, 0, none⟩) (L.length + 1) c10, [⟨b10, 0, .vec 31 8 c10, slC (L ++ [⟨y.key, _⟩])⟩]), ⟨trivial, trivial⟩, rfl⟩, ⟨hstep.symm, .inr ⟨b10, c10, by simp, by simp, by simpa using hc10, rfl⟩, ?_⟩, ?_⟩
        · simp only [push_cast, Nat.reduceAdd, Nat.reduceSub, Nat.reduceMul, Nat.reduceLT, Nat.reduceLeDiff, Nat.reduceEqDiff, Nat.reduceMod, Nat.reduceDiv, Int.reduceAdd, Int.reduceSub, Int.reduceMul, Int.reduceLT, Int.reduceLE, Int.reduceEq, Int.reduceNeg, Int.reduceToNat, reduceIte, reduceCtorEq, hb10]
        · simp only [push_cast, Nat.reduceAdd, Nat.reduceSub, Nat.reduceMul, Nat.reduceLT, Nat.reduceLeDiff, Nat.reduceEqDiff, Nat.reduceMod, Nat.reduceDiv, Int.reduceAdd, Int.reduceSub, Int.reduceMul, Int.reduceLT, Int.reduceLE, Int.reduceEq, Int.reduceNeg, Int.reduceToNat, reduceIte, reduceCtorEq, slC_app, hb10, hb9, hb7]
  · rintro D ⟨⟨L, w, N⟩, hx1, hx2⟩ hfD ⟨hL, hO, hF⟩
    dsimp only at hx1 hx2 hL hO hF hfD ⊢
    have hL' : L = diffL l m := by rw [hL, List.length_map, List.take_length]; rfl
    subst hL'
    rcases hO with ⟨h0, rfl, rfl⟩ | ⟨bo, co, h0, rfl, hco, rfl⟩
    · simp only [push_cast, Nat.reduceAdd, Nat.reduceSub, Nat.reduceMul, Nat.reduceLT, Nat.reduceLeDiff, Nat.reduceEqDiff, Nat.reduceMod, Nat.reduceDiv, Int.reduceAdd, Int.reduceSub, Int.reduceMul, Int.reduceLT, Int.reduceLE, Int.reduceEq, Int.reduceNeg, Int.reduceToNat, reduceIte, reduceCtorEq] at hfD
      simp only [push_cast, Nat.reduceAdd, Nat.reduceSub, Nat.reduceMul, Nat.reduceLT, Nat.reduceLeDiff, Nat.reduceEqDiff, Nat.reduceMod, Nat.reduceDiv, Int.reduceAdd, Int.reduceSub, Int.reduceMul, Int.reduceLT, Int.reduceLE, Int.reduceEq, Int.reduceNeg, Int.reduceToNat, reduceIte, reduceCtorEq, hfD]
      refine (limited_ok _ _ _).pure trivial ?_
      simp only [push_cast, Nat.reduceAdd, Nat.reduceSub, Nat.reduceMul, Nat.reduceLT, Nat.reduceLeDiff, Nat.reduceEqDiff, Nat.reduceMod, Nat.reduceDiv, Int.reduceAdd, Int.reduceSub, Int.reduceMul, Int.reduceLT, Int.reduceLE, Int.reduceEq, Int.reduceNeg, Int.reduceToNat, reduceIte, reduceCtorEq, Nat.not_lt_zero, List.getElem?_toArray]
      exact ⟨[], List.nil_sublist _, _, by simp [diffR, hr, hp, limR, h0], .inl ⟨by simp [diffR, hr, hp, limR, h0], rfl, rfl⟩⟩
    · simp only [push_cast, Nat.reduceAdd, Nat.reduceSub, Nat.reduceMul, Nat.reduceLT, Nat.reduceLeDiff, Nat.reduceEqDiff, Nat.reduceMod, Nat.reduceDiv, Int.reduceAdd, Int.reduceSub, Int.reduceMul, Int.reduceLT, Int.reduceLE, Int.reduceEq, Int.reduceNeg, Int.reduceToNat, reduceIte, reduceCtorEq] at hfD
      simp only [push_cast, Nat.reduceAdd, Nat.reduceSub, Nat.reduceMul, Nat.reduceLT, Nat.reduceLeDiff, Nat.reduceEqDiff, Nat.reduceMod, Nat.reduceDiv, Int.reduceAdd, Int.reduceSub, Int.reduceMul, Int.reduceLT, Int.reduceLE, Int.reduceEq, Int.reduceNeg, Int.reduceToNat, reduceIte, reduceCtorEq, hfD]
      refine (limited_ok _ _ _).pure trivial ?_
      rcases Nat.lt_or_ge 1000 (diffL l m).length with h | h
      · simp only [push_cast, Nat.reduceAdd, Nat.reduceSub, Nat.reduceMul, Nat.reduceLT, Nat.reduceLeDiff, Nat.reduceEqDiff, Nat.reduceMod, Nat.reduceDiv, Int.reduceAdd, Int.reduceSub, Int.reduceMul, Int.reduceLT, Int.reduceLE, Int.reduceEq, Int.reduceNeg, Int.reduceToNat, reduceIte, reduceCtorEq, h]
        exact ⟨[], List.nil_sublist _, _, by simp [diffR, hr, hp, limR, h], .inl ⟨by simp [diffR, hr, hp, limR, h], rfl, rfl⟩⟩
      · have h' : ¬ 1000 < (diffL l m).length := by omega
        simp only [push_cast, Nat.reduceAdd, Nat.reduceSub, Nat.reduceMul, Nat.reduceLT, Nat.reduceLeDiff, Nat.reduceEqDiff, Nat.reduceMod, Nat.reduceDiv, Int.reduceAdd, Int.reduceSub, Int.reduceMul, Int.reduceLT, Int.reduceLE, Int.reduceEq, Int.reduceNeg, Int.reduceToNat, reduceIte, reduceCtorEq, h']
        have h'' : diffR l m = (diffL l m, 0) := by simp [diffR, hr, hp, limR, h']
        exact ⟨_, (List.Sublist.refl _).cons _, _, by rw [h''], by rw [h'']; exact .inr ⟨bo, co, h0, rfl, hco, rfl⟩⟩
theorem put_ok {Hf : Hp} {l : List Sl} {v : Value} {k w : W} (hd : derE Hf Hf) (hm : marksOf Hf = []) (hl : SlR Hf l v) : CallsV Try.prog 17 [v, k.v, w.v] Hf (OutE 31 (mergeR l [⟨k, w⟩])) := by
  refine callsO gB_ok Try.mix Try.pl17 Try.func17 rfl Try.ntmps17 Try.results17 rfl (by first | rfl | assumption) (Nat.le_of_ble_eq_true rfl) (by kernel_rfl) ?_
  simp only [push_cast, Nat.reduceAdd, Nat.reduceSub, Nat.reduceMul, Nat.reduceLT, Nat.reduceLeDiff, Nat.reduceEqDiff, Nat.reduceMod, Nat.reduceDiv, Int.reduceAdd, Int.reduceSub, Int.reduceMul, Int.reduceLT, Int.reduceLE, Int.reduceEq, Int.reduceNeg, Int.reduceToNat, reduceIte, reduceCtorEq]
  intro b4 hb4 b5 hb5
  simp only [push_cast, Nat.reduceAdd, Nat.reduceSub, Nat.reduceMul, Nat.reduceLT, Nat.reduceLeDiff, Nat.reduceEqDiff, Nat.reduceMod, Nat.reduceDiv, Int.reduceAdd, Int.reduceSub, Int.reduceMul, Int.reduceLT, Int.reduceLE, Int.reduceEq, Int.reduceNeg, Int.reduceToNat, reduceIte, reduceCtorEq, hb4, hb5, Sl.pair]
  intro b6 hb6
  have h1 := ((hl.cons (e := ⟨b4, 0, .cel 26, k.cells⟩) hb4).cons (e := ⟨b5, 0, .cel 26, w.cells⟩) ⟨hb5.1, hb5.2.1, hb5.2.2⟩)
  have h2 : SlR (⟨b6, 0, .vec 31 8 1, (Sl.mk k w).cells⟩ :: ⟨b5, 0, .cel 26, w.cells⟩ :: ⟨b4, 0, .cel 26, k.cells⟩ :: Hf) [⟨k, w⟩] (.slice (some ⟨b6, 0, none⟩) 1 1) :=
    ⟨_, 1, rfl, .inr ⟨b6, 0, rfl, by simp only [push_cast, Nat.reduceAdd, Nat.reduceSub, Nat.reduceMul, Nat.reduceLT, Nat.reduceLeDiff, Nat.reduceEqDiff, Nat.reduceMod, Nat.reduceDiv, Int.reduceAdd, Int.reduceSub, Int.reduceMul, Int.reduceLT, Int.reduceLE, Int.reduceEq, Int.reduceNeg, Int.reduceToNat, reduceIte, reduceCtorEq, List.length_singleton]⟩⟩
  have h3 := h1.cons (e := ⟨b6, 0, .vec 31 8 1, (Sl.mk k w).cells⟩) (by simp only [push_cast, Nat.reduceAdd, Nat.reduceSub, Nat.reduceMul, Nat.reduceLT, Nat.reduceLeDiff, Nat.reduceEqDiff, Nat.reduceMod, Nat.reduceDiv, Int.reduceAdd, Int.reduceSub, Int.reduceMul, Int.reduceLT, Int.reduceLE, Int.reduceEq, Int.reduceNeg, Int.reduceToNat, reduceIte, reduceCtorEq, hb6])
  obtain ⟨H2, q1, q2, q3, q4, q5⟩ := h3.two h2
  refine (merge_ok q2 q3 q4 q5).use q1 ?_
  rintro _ N ⟨w', rfl, ho⟩
  refine ⟨ho.wr.1, ho.wr.2, fun hf => ?_⟩
  simp only [push_cast, Nat.reduceAdd, Nat.reduceSub, Nat.reduceMul, Nat.reduceLT, Nat.reduceLeDiff, Nat.reduceEqDiff, Nat.reduceMod, Nat.reduceDiv, Int.reduceAdd, Int.reduceSub, Int.reduceMul, Int.reduceLT, Int.reduceLE, Int.reduceEq, Int.reduceNeg, Int.reduceToNat, reduceIte, reduceCtorEq]
  refine ⟨N, ?_, w', rfl, ho⟩
  rw [dropM_eq]
  · exact List.sublist_append_left _ _
  · rw [marks_append, ho.wr.2]; simp [marksOf, hm]
end Go.Proofs.Ytfjenfjfiinjmaa
