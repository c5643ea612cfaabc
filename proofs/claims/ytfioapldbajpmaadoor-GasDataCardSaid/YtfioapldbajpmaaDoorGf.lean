/- Gf: gas.Declared: the map of what was met. -/
import Derived.Test.YtfioapldbajpmaaDoorGe
set_option linter.unusedSimpArgs false
set_option linter.unusedVariables false
namespace Go.Ev
/-- the keys of a map's entries -/
def MapK (l : List KeyT) (es : Array MapEntry) : Prop := es.toList.map (·.key) = l.map KeyT.v ∧ ∀ e ∈ es.toList, e.val = .agg #[]
theorem find_none {k : KeyT} : ∀ {l : List KeyT} {es : List MapEntry} {i : Nat}, es.map (·.key) = l.map KeyT.v → k ∉ l → findV keyK k.cells es i = some none
  | [], [], _, _, _ => rfl
  | [], _ :: _, _, h, _ => by simp at h
  | _ :: _, [], _, h, _ => by simp at h
  | x :: l, e :: es, i, h, hk => by
    simp only [List.map_cons, List.cons.injEq] at h
    have hne : k ≠ x := fun h => hk (by rw [h]; exact List.mem_cons_self ..)
    unfold findV
    rw [h.1]
    unfold KeyT.v
    dsimp only
    rw [KeyT.eqC, decide_eq_false hne]
    exact find_none h.2 fun hm => hk (List.mem_cons_of_mem _ hm)
theorem find_some {k : KeyT} : ∀ {l : List KeyT} {es : List MapEntry} {i : Nat}, es.map (·.key) = l.map KeyT.v → k ∈ l → ∃ j e, findV keyK k.cells es i = some (some (i + j, e.val)) ∧ es[j]? = some e ∧ e.key = k.v
  | [], _, _, _, hk => by cases hk
  | _ :: _, [], _, h, _ => by simp at h
  | x :: l, e :: es, i, h, hk => by
    simp only [List.map_cons, List.cons.injEq] at h
    by_cases hx : k = x
    · refine ⟨0, e, ?_, rfl, by rw [h.1, hx]⟩
      unfold findV
      rw [h.1]
      unfold KeyT.v
      dsimp only
      rw [KeyT.eqC, decide_eq_true hx]; rfl
    · have hk' : k ∈ l := by
        rcases List.mem_cons.1 hk with h | h
        · exact absurd h hx
        · exact h
      obtain ⟨j, e', h1, h2, h3⟩ := find_some (i := i + 1) h.2 hk'
      refine ⟨j + 1, e', ?_, by simpa using h2, h3⟩
      unfold findV
      rw [h.1]
      unfold KeyT.v
      dsimp only
      rw [KeyT.eqC, decide_eq_false hx]
      dsimp only
      rw [h1]
      congr 3; omega
theorem mapK_push {l : List KeyT} {es : Array MapEntry} (h : MapK l es) (k : KeyT) (c : Nat) : MapK (l ++ [k]) (es.push { key := k.v, val := .agg #[], born := c }) := by
  refine ⟨?_, fun e he => ?_⟩
  · rw [Array.toList_push, List.map_append, h.1, List.map_append]
    rfl
  · rw [Array.toList_push] at he
    rcases List.mem_append.1 he with he | he
    · exact h.2 e he
    · rw [List.mem_singleton.1 he]
theorem mapK_modify {l : List KeyT} {es : Array MapEntry} (h : MapK l es) {k : KeyT} {j : Nat} {e : MapEntry} (he : es.toList[j]? = some e) (hk : e.key = k.v) : MapK l (es.modify j fun e => { e with key := k.v, val := .agg #[] }) := by
  refine ⟨?_, fun x hx => ?_⟩
  case refine_2 =>
    rw [Array.toList_modify] at hx
    obtain ⟨i, hi⟩ := List.mem_iff_getElem?.1 hx
    rw [List.getElem?_modify] at hi
    cases h0 : es.toList[i]? with
    | none => rw [h0] at hi; cases hi
    | some y =>
      rw [h0] at hi
      by_cases hij : j = i
      · simp [hij] at hi; rw [← hi]
      · simp [hij] at hi; rw [← hi]; exact h.2 y (List.mem_of_getElem? h0)
  rw [← h.1, Array.toList_modify]
  refine List.ext_getElem? fun i => ?_
  rw [List.getElem?_map, List.getElem?_map, List.getElem?_modify]
  by_cases hij : j = i
  · subst hij
    rw [he]
    simp [hk]
  · simp [hij]
/-- what a key that was not met yet costs -/
def costK (k : KeyT) : Nat := if k.slot then 1900 else 2400
def stepD (s : Nat × List KeyT) (k : KeyT) : Nat × List KeyT := if k ∈ s.2 then s else (s.1 + costK k, s.2 ++ [k])
def declS (l : List KeyT) : Nat × List KeyT := l.foldl stepD (0, [])
theorem declS_take {l : List KeyT} {i : Nat} {x : KeyT} (h : l[i]? = some x) : declS (l.take (i + 1)) = stepD (declS (l.take i)) x := by
  obtain ⟨hi, hx⟩ := List.getElem?_eq_some_iff.1 h
  unfold declS
  rw [List.take_succ_eq_append_getElem hi, List.foldl_append, hx]; rfl
theorem stepD_le (s : Nat × List KeyT) (k : KeyT) : (stepD s k).1 ≤ s.1 + 2400 ∧ (stepD s k).2.length ≤ s.2.length + 1 := by
  unfold stepD costK
  split
  · exact ⟨by omega, by omega⟩
  · refine ⟨?_, by simp⟩
    dsimp only
    split <;> omega
theorem declS_le (l : List KeyT) : (declS l).1 ≤ 2400 * l.length ∧ (declS l).2.length ≤ l.length := by
  have h : ∀ (l : List KeyT) (s : Nat × List KeyT), (l.foldl stepD s).1 ≤ s.1 + 2400 * l.length ∧ (l.foldl stepD s).2.length ≤ s.2.length + l.length := by
    intro l
    induction l with
    | nil => intro s; exact ⟨Nat.le_refl _, Nat.le_refl _⟩
    | cons x r ih =>
      intro s
      obtain ⟨h1, h2⟩ := ih (stepD s x)
      obtain ⟨h3, h4⟩ := stepD_le s x
      rw [List.foldl_cons, List.length_cons]
      exact ⟨by omega, by omega⟩
  have := h l (0, [])
  simpa [declS] using this
noncomputable def declI : List KeyT → List KeyT → Nat := hid fun r w => (declS (r ++ w)).1
theorem declI_eq (r w : List KeyT) : declI r w = (declS (r ++ w)).1 := by unfold declI; rw [hid_eq]
theorem evLookup_key {P : Program} {H : Hp} {t : TypeId} {m : Value} {k : KeyT} {ok : Bool} {K : Value → Hp → Prop} {ks : List CK} {z : Value} (h : mapK P t = some (ks, z)) :
    evLookup P H t m k.v ok K = ((eqC ks k.cells k.cells).isSome = true ∧ match m with
    | .map (some b) => match findE H b with
      | some ⟨_, _, .obj (.map es _), _⟩ => match findV ks k.cells es.toList 0 with
        | some (some (_, v)) => K (okV ok true v) H
        | some none => K (okV ok false z) H
        | none => False
      | _ => False
    | .map none => K (okV ok false z) H
    | _ => False) := by
  unfold evLookup
  rw [h]
  rfl
theorem evMapUpd_key {P : Program} {H : Hp} {t : TypeId} {m v : Value} {k : KeyT} {K : Value → Hp → Prop} {ks : List CK} {z : Value} (h : mapK P t = some (ks, z)) :
    evMapUpd P H t m k.v v K = ((eqC ks k.cells k.cells).isSome = true ∧ match m with
    | .map (some b) => match findE H b with
      | some ⟨_, _, .obj (.map es clk), _⟩ => match findV ks k.cells es.toList 0 with
        | some (some (i, _)) => K undef (⟨b, 0, .obj (.map (es.modify i fun e => { e with key := k.v, val := v }) clk), []⟩ :: remE H b)
        | some none => K undef (⟨b, 0, .obj (.map (es.push { key := k.v, val := v, born := clk }) (clk + 1)), []⟩ :: remE H b)
        | none => False
      | _ => False
    | _ => False) := by
  unfold evMapUpd
  rw [h]
  rfl
end Go.Ev
namespace Go.Proofs.YtfioapldbajpmaaDoor
open Go Go.Ev Go.Proofs
set_option maxRecDepth 100000
set_option maxHeartbeats 4000000
theorem map_k : mapK Tryd.prog 75 = some (keyK, .agg #[]) := by kernel_rfl
attribute [push_cast] map_k
def plD1 : Plans := fun i => if i = 1 then [(0, 9)] else if i = 2 then [(0, 9)] else Tryd.pl54 i
attribute [push_cast] plD1
theorem decl1_ok (k : KeyT) (l : List KeyT) (es : Array MapEntry) (clk bh r : Nat) (hne : bh ≠ r) (hes : MapK l es) :
    CallsV Tryd.prog 54 [k.v, .pointer (some ⟨bh, 0, none⟩)] [⟨r, 0, .obj (.map es clk), []⟩, ⟨bh, 0, .cel 75, [.map (some r)]⟩]
      (fun v N => ∃ es' clk', v = .int .i64 (if k ∈ l then 0 else (costK k : Int)) ∧ MapK (if k ∈ l then l else l ++ [k]) es' ∧ N = [⟨r, 0, .obj (.map es' clk'), []⟩, ⟨bh, 0, .cel 75, [.map (some r)]⟩]) := by
  have hs : eqC keyK k.cells k.cells = some true := by rw [KeyT.eqC, decide_eq_true rfl]
  have va : k.v = .agg k.cells.toArray := rfl
  refine callsO (noG_ok _) Tryd.mix plD1 Tryd.func54 rfl Tryd.ntmps54 Tryd.results54 rfl (by first | rfl | assumption) (Nat.le_of_ble_eq_true rfl) (by kernel_rfl) ?_
  simp only [push_cast, Nat.reduceAdd, Nat.reduceSub, Nat.reduceMul, Nat.reduceLT, Nat.reduceLeDiff, Nat.reduceEqDiff, Nat.reduceMod, Nat.reduceDiv, Int.reduceAdd, Int.reduceSub, Int.reduceMul, Int.reduceLT, Int.reduceLE, Int.reduceEq, Int.reduceNeg, Int.reduceToNat, reduceIte, reduceCtorEq, Int.reduceBEq, Int.reduceBNe, Bool.true_beq, Bool.false_beq, Bool.true_bne, Bool.false_bne, Bool.not_true, Bool.not_false]
  intro b2 hb2
  refine regO (noG_ok _) ?_
  by_cases hk : k ∈ l
  · obtain ⟨j, e, h1, h2, h3⟩ := find_some (i := 0) hes.1 hk
    have hv := hes.2 e (List.mem_of_getElem? h2)
    rw [Nat.zero_add, hv] at h1
    rw [if_pos hk, if_pos hk]
    simp only [push_cast, Nat.reduceAdd, Nat.reduceSub, Nat.reduceMul, Nat.reduceLT, Nat.reduceLeDiff, Nat.reduceEqDiff, Nat.reduceMod, Nat.reduceDiv, Int.reduceAdd, Int.reduceSub, Int.reduceMul, Int.reduceLT, Int.reduceLE, Int.reduceEq, Int.reduceNeg, Int.reduceToNat, reduceIte, reduceCtorEq, Int.reduceBEq, Int.reduceBNe, Bool.true_beq, Bool.false_beq, Bool.true_bne, Bool.false_bne, Bool.not_true, Bool.not_false]
    simp only [KeyT.v]
    simp only [push_cast, Nat.reduceAdd, Nat.reduceSub, Nat.reduceMul, Nat.reduceLT, Nat.reduceLeDiff, Nat.reduceEqDiff, Nat.reduceMod, Nat.reduceDiv, Int.reduceAdd, Int.reduceSub, Int.reduceMul, Int.reduceLT, Int.reduceLE, Int.reduceEq, Int.reduceNeg, Int.reduceToNat, reduceIte, reduceCtorEq, Int.reduceBEq, Int.reduceBNe, Bool.true_beq, Bool.false_beq, Bool.true_bne, Bool.false_bne, Bool.not_true, Bool.not_false, hb2, hne, hne.symm, hs, h1]
    intro b4 hb4
    refine regO (noG_ok _) ?_
    simp only [push_cast, Nat.reduceAdd, Nat.reduceSub, Nat.reduceMul, Nat.reduceLT, Nat.reduceLeDiff, Nat.reduceEqDiff, Nat.reduceMod, Nat.reduceDiv, Int.reduceAdd, Int.reduceSub, Int.reduceMul, Int.reduceLT, Int.reduceLE, Int.reduceEq, Int.reduceNeg, Int.reduceToNat, reduceIte, reduceCtorEq, Int.reduceBEq, Int.reduceBNe, Bool.true_beq, Bool.false_beq, Bool.true_bne, Bool.false_bne, Bool.not_true, Bool.not_false, hb2, hb4, hne, hne.symm]
    simp only [KeyT.v]
    simp only [push_cast, Nat.reduceAdd, Nat.reduceSub, Nat.reduceMul, Nat.reduceLT, Nat.reduceLeDiff, Nat.reduceEqDiff, Nat.reduceMod, Nat.reduceDiv, Int.reduceAdd, Int.reduceSub, Int.reduceMul, Int.reduceLT, Int.reduceLE, Int.reduceEq, Int.reduceNeg, Int.reduceToNat, reduceIte, reduceCtorEq, Int.reduceBEq, Int.reduceBNe, Bool.true_beq, Bool.false_beq, Bool.true_bne, Bool.false_bne, Bool.not_true, Bool.not_false, hb2, hb4, hne, hne.symm, hs, h1]
    exact ⟨_, (List.Sublist.cons_cons _ (List.Sublist.cons _ (List.Sublist.cons _ (List.Sublist.refl _)))), _, _, mapK_modify hes h2 h3, rfl⟩
  · have h1 := find_none (i := 0) hes.1 hk
    rw [if_neg hk, if_neg hk]
    simp only [push_cast, Nat.reduceAdd, Nat.reduceSub, Nat.reduceMul, Nat.reduceLT, Nat.reduceLeDiff, Nat.reduceEqDiff, Nat.reduceMod, Nat.reduceDiv, Int.reduceAdd, Int.reduceSub, Int.reduceMul, Int.reduceLT, Int.reduceLE, Int.reduceEq, Int.reduceNeg, Int.reduceToNat, reduceIte, reduceCtorEq, Int.reduceBEq, Int.reduceBNe, Bool.true_beq, Bool.false_beq, Bool.true_bne, Bool.false_bne, Bool.not_true, Bool.not_false]
    simp only [KeyT.v]
    simp only [push_cast, Nat.reduceAdd, Nat.reduceSub, Nat.reduceMul, Nat.reduceLT, Nat.reduceLeDiff, Nat.reduceEqDiff, Nat.reduceMod, Nat.reduceDiv, Int.reduceAdd, Int.reduceSub, Int.reduceMul, Int.reduceLT, Int.reduceLE, Int.reduceEq, Int.reduceNeg, Int.reduceToNat, reduceIte, reduceCtorEq, Int.reduceBEq, Int.reduceBNe, Bool.true_beq, Bool.false_beq, Bool.true_bne, Bool.false_bne, Bool.not_true, Bool.not_false, hb2, hne, hne.symm, hs, h1]
    intro b4 hb4
    refine regO (noG_ok _) ?_
    simp only [push_cast, Nat.reduceAdd, Nat.reduceSub, Nat.reduceMul, Nat.reduceLT, Nat.reduceLeDiff, Nat.reduceEqDiff, Nat.reduceMod, Nat.reduceDiv, Int.reduceAdd, Int.reduceSub, Int.reduceMul, Int.reduceLT, Int.reduceLE, Int.reduceEq, Int.reduceNeg, Int.reduceToNat, reduceIte, reduceCtorEq, Int.reduceBEq, Int.reduceBNe, Bool.true_beq, Bool.false_beq, Bool.true_bne, Bool.false_bne, Bool.not_true, Bool.not_false, hb2, hb4, hne, hne.symm]
    simp only [KeyT.v]
    cases hsl : k.slot
    · have ec : (costK k : Int) = 2400 := by unfold costK; rw [hsl]; rfl
      simp only [push_cast, Nat.reduceAdd, Nat.reduceSub, Nat.reduceMul, Nat.reduceLT, Nat.reduceLeDiff, Nat.reduceEqDiff, Nat.reduceMod, Nat.reduceDiv, Int.reduceAdd, Int.reduceSub, Int.reduceMul, Int.reduceLT, Int.reduceLE, Int.reduceEq, Int.reduceNeg, Int.reduceToNat, reduceIte, reduceCtorEq, Int.reduceBEq, Int.reduceBNe, Bool.true_beq, Bool.false_beq, Bool.true_bne, Bool.false_bne, Bool.not_true, Bool.not_false, hb2, hb4, hne, hne.symm, hs, h1, hsl, ec]
      exact ⟨_, (List.Sublist.cons_cons _ (List.Sublist.cons _ (List.Sublist.cons _ (List.Sublist.refl _)))), _, _, mapK_push hes k clk, rfl⟩
    · have ec : (costK k : Int) = 1900 := by unfold costK; rw [hsl]; rfl
      simp only [push_cast, Nat.reduceAdd, Nat.reduceSub, Nat.reduceMul, Nat.reduceLT, Nat.reduceLeDiff, Nat.reduceEqDiff, Nat.reduceMod, Nat.reduceDiv, Int.reduceAdd, Int.reduceSub, Int.reduceMul, Int.reduceLT, Int.reduceLE, Int.reduceEq, Int.reduceNeg, Int.reduceToNat, reduceIte, reduceCtorEq, Int.reduceBEq, Int.reduceBNe, Bool.true_beq, Bool.false_beq, Bool.true_bne, Bool.false_bne, Bool.not_true, Bool.not_false, hb2, hb4, hne, hne.symm, hs, h1, hsl, ec]
      exact ⟨_, (List.Sublist.cons_cons _ (List.Sublist.cons _ (List.Sublist.cons _ (List.Sublist.refl _)))), _, _, mapK_push hes k clk, rfl⟩
end Go.Proofs.YtfioapldbajpmaaDoor
