/- Texts of this claim, merged by program: Tc Td. -/
import Derived.Test.YtkhpncfgimlleaaGreatZnAe
set_option linter.unusedSimpArgs false
set_option linter.unusedVariables false
namespace Go.Ev
def idxI (f : Sl → Bool) (l : List Sl) : Int := match l.findIdx? f with | some i => i | none => -1
theorem idxI_some {f : Sl → Bool} {l : List Sl} {i : Nat} {x : Sl} (hx : l[i]? = some x) (h1 : f x = true) (h0 : ∀ (j : Nat) (y : Sl), j < i → l[j]? = some y → f y = false) : idxI f l = i := by
  obtain ⟨hi1, hi2⟩ := (List.getElem?_eq_some_iff.1 hx)
  have : l.findIdx? f = some i := by
    rw [List.findIdx?_eq_some_iff_getElem]
    refine ⟨hi1, by rw [hi2]; exact h1, fun j hj => ?_⟩
    have := h0 j (l[j]'(by omega)) hj (List.getElem?_eq_getElem (by omega))
    simp [this]
  unfold idxI; rw [this]
theorem idxI_none {f : Sl → Bool} {l : List Sl} (h0 : ∀ (j : Nat) (y : Sl), l[j]? = some y → f y = false) : idxI f l = -1 := by
  have : l.findIdx? f = none := by
    rw [List.findIdx?_eq_none_iff]
    intro x hx
    obtain ⟨j, hj⟩ := List.getElem?_of_mem hx
    exact h0 j x hj
  unfold idxI; rw [this]
theorem idxI_any {f : Sl → Bool} {l : List Sl} : decide (0 ≤ idxI f l) = l.any f := by
  rw [Bool.eq_iff_iff, decide_eq_true_eq]
  unfold idxI
  cases h : l.findIdx? f with
  | none => simpa using List.findIdx?_eq_none_iff.1 h
  | some i =>
    obtain ⟨h1, h2, _⟩ := List.findIdx?_eq_some_iff_getElem.1 h
    simp only [Int.natCast_nonneg, true_iff, List.any_eq_true]
    exact ⟨_, List.getElem_mem h1, h2⟩
theorem SlH.find {l : List Sl} {q : Option Addr} {n c : Nat} {Hf : Hp} (h : SlH l (.slice q n c) Hf) : n = l.length ∧ (l = [] ∨ ∃ b o, q = some ⟨b, o, none⟩ ∧ findE Hf b = some ⟨b, o, .ro, slC l⟩) := by
  obtain ⟨p, c', h, ⟨rfl, rfl⟩ | ⟨b, o, rfl, rfl⟩⟩ := h
  · cases h; exact ⟨rfl, .inl rfl⟩
  · cases h; exact ⟨rfl, .inr ⟨b, o, rfl, by simp [findE]⟩⟩
theorem SlH.slice {l : List Sl} {v : Value} {Hf : Hp} (h : SlH l v Hf) : ∃ q c, v = .slice q l.length c := by
  obtain ⟨p, c', rfl, _⟩ := h; exact ⟨p, c', rfl⟩
theorem idxI_find (f : Sl → Bool) (l : List Sl) : (idxI f l = -1 ∧ l.find? f = none) ∨ ∃ (i : Nat) (x : Sl), idxI f l = i ∧ l[i]? = some x ∧ l.find? f = some x := by
  unfold idxI
  cases h : l.findIdx? f with
  | none =>
    refine .inl ⟨rfl, ?_⟩
    have := List.findIdx?_eq_none_iff.1 h
    simpa using this
  | some i =>
    obtain ⟨h1, h2, h3⟩ := List.findIdx?_eq_some_iff_getElem.1 h
    refine .inr ⟨i, l[i], rfl, List.getElem?_eq_getElem h1, ?_⟩
    rw [List.find?_eq_some_iff_getElem]
    exact ⟨h2, i, h1, rfl, fun j hj => by have := h3 j hj; simpa using this⟩
noncomputable def getW (l : List Sl) (k : W) : W := ((l.find? fun x => decide (x.key = k)).map (·.val)).getD W.zero
theorem slC_take (l : List Sl) : List.take (l.length * 8) (slC l) = slC l := by rw [← slC_len, List.take_length]
noncomputable def rightB (l : List Sl) : Bool := patchB l && !(l.any fun x => decide (x.val = W.zero))
theorem CallsV.ret0 {P : Program} {g : FuncId} {args : List Value} {Hf H : Hp} {v : Value} (hc : CallsV P g args Hf (Ret0 v)) (hd : derE H Hf) (hm : marksOf H = []) : CallsV P g args H (Ret0 v) := by
  have h := hc.pure (K' := fun u H' => u = v ∧ H' = H) hd ⟨rfl, rfl⟩
  refine ⟨h.1, fun w0 mu w hs => (h.2 w0 mu w hs).mono ?_⟩
  rintro e w' ⟨u, H', rfl, ⟨rfl, rfl⟩, hs', _⟩
  exact ⟨u, [], rfl, ⟨rfl, rfl⟩, hs'.weak (List.nil_sublist _), by rw [hm]; rfl⟩
theorem W.zero_agg : Value.agg #[.int .u64 0, .int .u64 0, .int .u64 0, .int .u64 0] = W.zero.v := rfl
theorem W.ext_iff' {x y : W} : x = y ↔ x.a = y.a ∧ x.b = y.b ∧ x.c = y.c ∧ x.d = y.d := ⟨fun h => by subst h; exact ⟨rfl, rfl, rfl, rfl⟩, fun h => W.eq h.1 h.2.1 h.2.2.1 h.2.2.2⟩
theorem W.eqC (x y : W) : eqC [.i, .i, .i, .i] x.cells y.cells = some (decide (x = y)) := by
  simp only [W.cells, Go.Ev.eqC, if_true, Option.map_some, Option.some.injEq, Bool.and_true]
  rw [Bool.eq_iff_iff]
  simp only [Bool.and_eq_true, beq_iff_eq, decide_eq_true_eq, W.ext_iff', Int.ofNat_inj]
theorem W.eqV {P : Program} {t : TypeId} (x y : W) (h1 : tyI P t = some (4, true)) (h2 : P.eqGuardType P.depth t = false) (h3 : flatK P 12 t = some [.i, .i, .i, .i]) : eqV P t x.v y.v = some (decide (x = y)) := by
  unfold W.v Go.Ev.eqV
  simp only [h1, h2, h3, Option.bind_some, Bool.false_eq_true, if_false, List.toList_toArray, W.eqC]
theorem W.eql {P : Program} {t : TypeId} (x y : W) (h1 : tyI P t = some (4, true)) (h2 : P.eqGuardType P.depth t = false) (h3 : flatK P 12 t = some [.i, .i, .i, .i]) : binQ P .eql t x.v y.v = some (.bool (decide (x = y))) := by
  have := W.eqV x y h1 h2 h3
  unfold W.v at this ⊢
  simp only [binQ, this, Option.map_some]
theorem W.neq {P : Program} {t : TypeId} (x y : W) (h1 : tyI P t = some (4, true)) (h2 : P.eqGuardType P.depth t = false) (h3 : flatK P 12 t = some [.i, .i, .i, .i]) : binQ P .neq t x.v y.v = some (.bool (!decide (x = y))) := by
  have := W.eqV x y h1 h2 h3
  unfold W.v at this ⊢
  simp only [binQ, this, Option.map_some]
theorem Sl.eqC (x y : Sl) : Go.Ev.eqC [.i, .i, .i, .i, .i, .i, .i, .i] x.cells y.cells = some (decide (x = y)) := by
  simp only [Sl.cells, W.cells, List.cons_append, List.nil_append, Go.Ev.eqC, if_true, Option.map_some, Option.some.injEq, Bool.and_true]
  rw [Bool.eq_iff_iff]
  obtain ⟨xk, xv⟩ := x; obtain ⟨yk, yv⟩ := y
  simp only [Bool.and_eq_true, beq_iff_eq, decide_eq_true_eq, Sl.mk.injEq, W.ext_iff', Int.ofNat_inj]
  constructor
  · rintro ⟨a, b, c, d, e, f, g, h⟩; exact ⟨⟨a, b, c, d⟩, e, f, g, h⟩
  · rintro ⟨⟨a, b, c, d⟩, e, f, g, h⟩; exact ⟨a, b, c, d, e, f, g, h⟩
theorem Sl.eqV {P : Program} {t : TypeId} (x y : Sl) (h1 : tyI P t = some (8, true)) (h2 : P.eqGuardType P.depth t = false) (h3 : flatK P 12 t = some [.i, .i, .i, .i, .i, .i, .i, .i]) : Go.Ev.eqV P t x.v y.v = some (decide (x = y)) := by
  unfold Sl.v Go.Ev.eqV
  simp only [h1, h2, h3, Option.bind_some, Bool.false_eq_true, if_false, List.toList_toArray, Sl.eqC]
theorem Sl.neq {P : Program} {t : TypeId} (x y : Sl) (h1 : tyI P t = some (8, true)) (h2 : P.eqGuardType P.depth t = false) (h3 : flatK P 12 t = some [.i, .i, .i, .i, .i, .i, .i, .i]) : binQ P .neq t x.v y.v = some (.bool (!decide (x = y))) := by
  have := Sl.eqV x y h1 h2 h3
  unfold Sl.v at this ⊢
  simp only [binQ, this, Option.map_some]
attribute [push_cast high] W.zero_agg W.eql W.neq Sl.neq
end Go.Ev
namespace Go.Proofs.YtkhpncfgimlleaaGreat
open Go Go.Ev Go.Proofs
set_option maxRecDepth 100000
set_option maxHeartbeats 4000000
theorem indexFunc_ok {H : Hp} {l : List Sl} {q : Option Addr} {c : Nat} {g : FuncId} {caps : List Value} {f : Sl → Bool} (hm : marksOf H = []) (hd : derE H H) (hn : l.length ≤ 4000)
    (hv : l = [] ∨ ∃ b o, q = some ⟨b, o, none⟩ ∧ findE H b = some ⟨b, o, .ro, slC l⟩) (hf : ∀ x ∈ l, CallsV Tryz.prog g (x.v :: caps) H (Ret0 (.bool (f x)))) :
    CallsV Tryz.prog 88 [.slice q l.length c, .func (.func g) #[] caps.toArray] H (Ret0 (.int .i64 (idxI f l))) := by
  refine callsO (noG_ok _) Tryz.mix Tryz.pl88 Tryz.func88 rfl Tryz.ntmps88 Tryz.results88 rfl (by first | rfl | assumption) (Nat.le_of_ble_eq_true rfl) (by kernel_rfl) ?_
  simp only [push_cast, Nat.reduceAdd, Nat.reduceSub, Nat.reduceMul, Nat.reduceLT, Nat.reduceLeDiff, Nat.reduceEqDiff, Nat.reduceMod, Nat.reduceDiv, Int.reduceAdd, Int.reduceSub, Int.reduceMul, Int.reduceLT, Int.reduceLE, Int.reduceEq, Int.reduceNeg, Int.reduceToNat, reduceIte, reduceCtorEq, Int.reduceBEq, Int.reduceBNe]
  refine loopO (noG_ok _) (pl := Tryz.pl88) Tryz.mix (X := Nat)
    (fun k => ([(0, .slice q l.length c), (1, .func (.func g) #[] caps.toArray), (7, .int .i64 l.length), (8, .int .i64 k)], H))
    (fun k => k ≤ l.length ∧ ∀ j y, j < k → l[j]? = some y → f y = false) (fun k => l.length - k) 0 ?_ ?_ (by kernel_rfl) ?_
  · exact ⟨Nat.zero_le _, fun i x h => by omega⟩
  · simp only [push_cast, Nat.reduceAdd, Nat.reduceSub, Nat.reduceMul, Nat.reduceLT, Nat.reduceLeDiff, Nat.reduceEqDiff, Nat.reduceMod, Nat.reduceDiv, Int.reduceAdd, Int.reduceSub, Int.reduceMul, Int.reduceLT, Int.reduceLE, Int.reduceEq, Int.reduceNeg, Int.reduceToNat, reduceIte, reduceCtorEq, Int.reduceBEq, Int.reduceBNe, hm]
  · rintro k ⟨hk, ho⟩
    dsimp only at hk ho ⊢
    rcases Nat.lt_or_ge k l.length with hlt | hge
    · obtain ⟨x, hx⟩ : ∃ x, l[k]? = some x := ⟨l[k], List.getElem?_eq_getElem hlt⟩
      have hat := slC_at hx
      rcases hv with rfl | ⟨b, o, rfl, hb⟩
      · simp at hlt
      have hfx := hf x (List.mem_of_getElem? hx)
      simp only [push_cast, Nat.reduceAdd, Nat.reduceSub, Nat.reduceMul, Nat.reduceLT, Nat.reduceLeDiff, Nat.reduceEqDiff, Nat.reduceMod, Nat.reduceDiv, Int.reduceAdd, Int.reduceSub, Int.reduceMul, Int.reduceLT, Int.reduceLE, Int.reduceEq, Int.reduceNeg, Int.reduceToNat, reduceIte, reduceCtorEq, Int.reduceBEq, Int.reduceBNe, hlt, hat, hb]
      refine hfx.pure hd ?_
      simp only [push_cast, Nat.reduceAdd, Nat.reduceSub, Nat.reduceMul, Nat.reduceLT, Nat.reduceLeDiff, Nat.reduceEqDiff, Nat.reduceMod, Nat.reduceDiv, Int.reduceAdd, Int.reduceSub, Int.reduceMul, Int.reduceLT, Int.reduceLE, Int.reduceEq, Int.reduceNeg, Int.reduceToNat, reduceIte, reduceCtorEq, Int.reduceBEq, Int.reduceBNe, wrap_i64' (show -9223372036854775808 ≤ (k : Int) + 1 ∧ (k : Int) + 1 ≤ 9223372036854775807 by omega)]
      simp only [sel_ite, decide_eq_true_eq, bne_iff_ne, ne_eq, beq_iff_eq]
      split
      · rename_i h
        rw [idxI_some hx h ho]
      · rename_i h
        refine ⟨k + 1, ⟨hlt, fun j y hj hy => ?_⟩, by omega, rfl⟩
        rcases Nat.lt_or_ge j k with h5 | h5
        · exact ho j y h5 hy
        · obtain rfl : j = k := by omega
          rw [hx] at hy; cases hy
          simpa using h
    · obtain rfl : k = l.length := by omega
      simp only [push_cast, Nat.reduceAdd, Nat.reduceSub, Nat.reduceMul, Nat.reduceLT, Nat.reduceLeDiff, Nat.reduceEqDiff, Nat.reduceMod, Nat.reduceDiv, Int.reduceAdd, Int.reduceSub, Int.reduceMul, Int.reduceLT, Int.reduceLE, Int.reduceEq, Int.reduceNeg, Int.reduceToNat, reduceIte, reduceCtorEq, Int.reduceBEq, Int.reduceBNe, Nat.lt_irrefl, idxI_none (fun j y hj => ho j y (List.getElem?_eq_some_iff.1 hj).1 hj)]
theorem right1_ok (x : Sl) : CallsV Tryz.prog 85 [x.v] [] (Ret0 (.bool (decide (x.val = W.zero)))) := by
  refine callsO (noG_ok _) Tryz.mix Tryz.pl85 Tryz.func85 rfl Tryz.ntmps85 Tryz.results85 rfl (by first | rfl | assumption) (Nat.le_of_ble_eq_true rfl) (by kernel_rfl) ?_
  simp only [push_cast, Nat.reduceAdd, Nat.reduceSub, Nat.reduceMul, Nat.reduceLT, Nat.reduceLeDiff, Nat.reduceEqDiff, Nat.reduceMod, Nat.reduceDiv, Int.reduceAdd, Int.reduceSub, Int.reduceMul, Int.reduceLT, Int.reduceLE, Int.reduceEq, Int.reduceNeg, Int.reduceToNat, reduceIte, reduceCtorEq, Int.reduceBEq, Int.reduceBNe]
theorem containsFunc_ok {H : Hp} {l : List Sl} {q : Option Addr} {c : Nat} {g : FuncId} {caps : List Value} {f : Sl → Bool} (hm : marksOf H = []) (hd : derE H H) (hn : l.length ≤ 4000)
    (hv : l = [] ∨ ∃ b o, q = some ⟨b, o, none⟩ ∧ findE H b = some ⟨b, o, .ro, slC l⟩) (hf : ∀ x ∈ l, CallsV Tryz.prog g (x.v :: caps) H (Ret0 (.bool (f x)))) :
    CallsV Tryz.prog 84 [.slice q l.length c, .func (.func g) #[] caps.toArray] H (Ret0 (.bool (l.any f))) := by
  refine callsO (noG_ok _) Tryz.mix Tryz.pl84 Tryz.func84 rfl Tryz.ntmps84 Tryz.results84 rfl (by first | rfl | assumption) (Nat.le_of_ble_eq_true rfl) (by kernel_rfl) ?_
  simp only [push_cast, Nat.reduceAdd, Nat.reduceSub, Nat.reduceMul, Nat.reduceLT, Nat.reduceLeDiff, Nat.reduceEqDiff, Nat.reduceMod, Nat.reduceDiv, Int.reduceAdd, Int.reduceSub, Int.reduceMul, Int.reduceLT, Int.reduceLE, Int.reduceEq, Int.reduceNeg, Int.reduceToNat, reduceIte, reduceCtorEq, Int.reduceBEq, Int.reduceBNe]
  refine (indexFunc_ok hm hd hn hv hf).pure hd ?_
  simp only [push_cast, Nat.reduceAdd, Nat.reduceSub, Nat.reduceMul, Nat.reduceLT, Nat.reduceLeDiff, Nat.reduceEqDiff, Nat.reduceMod, Nat.reduceDiv, Int.reduceAdd, Int.reduceSub, Int.reduceMul, Int.reduceLT, Int.reduceLE, Int.reduceEq, Int.reduceNeg, Int.reduceToNat, reduceIte, reduceCtorEq, Int.reduceBEq, Int.reduceBNe, idxI_any]
theorem right_ok {Hf : Hp} {l : List Sl} {v : Value} (hv : SlH l v Hf) : CallsV Tryz.prog 69 [v] Hf (Ret0 (.bool (rightB l))) := by
  have hm := hv.marks
  obtain ⟨q, c, rfl⟩ := hv.slice
  refine callsO (noG_ok _) Tryz.mix Tryz.pl69 Tryz.func69 rfl Tryz.ntmps69 Tryz.results69 rfl (by first | rfl | assumption) (Nat.le_of_ble_eq_true rfl) (by kernel_rfl) ?_
  simp only [push_cast, Nat.reduceAdd, Nat.reduceSub, Nat.reduceMul, Nat.reduceLT, Nat.reduceLeDiff, Nat.reduceEqDiff, Nat.reduceMod, Nat.reduceDiv, Int.reduceAdd, Int.reduceSub, Int.reduceMul, Int.reduceLT, Int.reduceLE, Int.reduceEq, Int.reduceNeg, Int.reduceToNat, reduceIte, reduceCtorEq, Int.reduceBEq, Int.reduceBNe]
  refine (patch_ok hv).pure hv.der ?_
  simp only [push_cast, Nat.reduceAdd, Nat.reduceSub, Nat.reduceMul, Nat.reduceLT, Nat.reduceLeDiff, Nat.reduceEqDiff, Nat.reduceMod, Nat.reduceDiv, Int.reduceAdd, Int.reduceSub, Int.reduceMul, Int.reduceLT, Int.reduceLE, Int.reduceEq, Int.reduceNeg, Int.reduceToNat, reduceIte, reduceCtorEq, Int.reduceBEq, Int.reduceBNe]
  cases hp : patchB l with
  | false => simp only [push_cast, Nat.reduceAdd, Nat.reduceSub, Nat.reduceMul, Nat.reduceLT, Nat.reduceLeDiff, Nat.reduceEqDiff, Nat.reduceMod, Nat.reduceDiv, Int.reduceAdd, Int.reduceSub, Int.reduceMul, Int.reduceLT, Int.reduceLE, Int.reduceEq, Int.reduceNeg, Int.reduceToNat, reduceIte, reduceCtorEq, Int.reduceBEq, Int.reduceBNe, rightB, hp]
  | true =>
    simp only [push_cast, Nat.reduceAdd, Nat.reduceSub, Nat.reduceMul, Nat.reduceLT, Nat.reduceLeDiff, Nat.reduceEqDiff, Nat.reduceMod, Nat.reduceDiv, Int.reduceAdd, Int.reduceSub, Int.reduceMul, Int.reduceLT, Int.reduceLE, Int.reduceEq, Int.reduceNeg, Int.reduceToNat, reduceIte, reduceCtorEq, Int.reduceBEq, Int.reduceBNe]
    have hl : l.length ≤ 1000 := by unfold patchB at hp; simp at hp; exact hp.1
    refine (containsFunc_ok (f := fun x => decide (x.val = W.zero)) hm hv.der (by omega) hv.find.2 fun x _ => (right1_ok x).ret0 trivial hm).pure hv.der ?_
    simp only [push_cast, Nat.reduceAdd, Nat.reduceSub, Nat.reduceMul, Nat.reduceLT, Nat.reduceLeDiff, Nat.reduceEqDiff, Nat.reduceMod, Nat.reduceDiv, Int.reduceAdd, Int.reduceSub, Int.reduceMul, Int.reduceLT, Int.reduceLE, Int.reduceEq, Int.reduceNeg, Int.reduceToNat, reduceIte, reduceCtorEq, Int.reduceBEq, Int.reduceBNe, rightB, hp]
theorem limited_ok (p : Option Addr) (n c : Nat) : CallsV Tryz.prog 98 [.slice p n c] [] (Ret0 (.tuple (if 1000 < n then #[.slice none 0 0, .int .i64 2] else #[.slice p n c, .int .i64 0]))) := by
  refine callsO (noG_ok _) Tryz.mix Tryz.pl98 Tryz.func98 rfl Tryz.ntmps98 Tryz.results98 rfl (by first | rfl | assumption) (Nat.le_of_ble_eq_true rfl) (by kernel_rfl) ?_
  simp only [push_cast, Nat.reduceAdd, Nat.reduceSub, Nat.reduceMul, Nat.reduceLT, Nat.reduceLeDiff, Nat.reduceEqDiff, Nat.reduceMod, Nat.reduceDiv, Int.reduceAdd, Int.reduceSub, Int.reduceMul, Int.reduceLT, Int.reduceLE, Int.reduceEq, Int.reduceNeg, Int.reduceToNat, reduceIte, reduceCtorEq, Int.reduceBEq, Int.reduceBNe]
  rcases Nat.lt_or_ge 1000 n with h | h
  · have e1 : (1000 : Int) < (n : Int) := by omega
    simp only [push_cast, Nat.reduceAdd, Nat.reduceSub, Nat.reduceMul, Nat.reduceLT, Nat.reduceLeDiff, Nat.reduceEqDiff, Nat.reduceMod, Nat.reduceDiv, Int.reduceAdd, Int.reduceSub, Int.reduceMul, Int.reduceLT, Int.reduceLE, Int.reduceEq, Int.reduceNeg, Int.reduceToNat, reduceIte, reduceCtorEq, Int.reduceBEq, Int.reduceBNe, e1, h, if_pos]
  · have e1 : ¬ (1000 : Int) < (n : Int) := by omega
    simp only [push_cast, Nat.reduceAdd, Nat.reduceSub, Nat.reduceMul, Nat.reduceLT, Nat.reduceLeDiff, Nat.reduceEqDiff, Nat.reduceMod, Nat.reduceDiv, Int.reduceAdd, Int.reduceSub, Int.reduceMul, Int.reduceLT, Int.reduceLE, Int.reduceEq, Int.reduceNeg, Int.reduceToNat, reduceIte, reduceCtorEq, Int.reduceBEq, Int.reduceBNe, e1, Nat.not_lt.2 h]
theorem get1_ok (x : Sl) (k : W) (b : Nat) : CallsV Tryz.prog 89 [x.v, .pointer (some ⟨b, 0, none⟩)] [⟨b, 0, .ro, k.cells⟩] (Ret0 (.bool (decide (x.key = k)))) := by
  refine callsO (noG_ok _) Tryz.mix Tryz.pl89 Tryz.func89 rfl Tryz.ntmps89 Tryz.results89 rfl (by first | rfl | assumption) (Nat.le_of_ble_eq_true rfl) (by kernel_rfl) ?_
  simp only [push_cast, Nat.reduceAdd, Nat.reduceSub, Nat.reduceMul, Nat.reduceLT, Nat.reduceLeDiff, Nat.reduceEqDiff, Nat.reduceMod, Nat.reduceDiv, Int.reduceAdd, Int.reduceSub, Int.reduceMul, Int.reduceLT, Int.reduceLE, Int.reduceEq, Int.reduceNeg, Int.reduceToNat, reduceIte, reduceCtorEq, Int.reduceBEq, Int.reduceBNe]
  intro b1 hb1
  simp only [push_cast, Nat.reduceAdd, Nat.reduceSub, Nat.reduceMul, Nat.reduceLT, Nat.reduceLeDiff, Nat.reduceEqDiff, Nat.reduceMod, Nat.reduceDiv, Int.reduceAdd, Int.reduceSub, Int.reduceMul, Int.reduceLT, Int.reduceLE, Int.reduceEq, Int.reduceNeg, Int.reduceToNat, reduceIte, reduceCtorEq, Int.reduceBEq, Int.reduceBNe, hb1]
theorem get_ok {Hf : Hp} {l : List Sl} {v : Value} {k : W} (hv : SlH l v Hf) (hn : l.length ≤ 4000) : CallsV Tryz.prog 74 [v, k.v] Hf (Ret0 (getW l k).v) := by
  obtain ⟨q, c, rfl, ⟨rfl, rfl⟩ | ⟨b, o, rfl, rfl⟩⟩ := hv
  · refine callsO (noG_ok _) Tryz.mix Tryz.pl74 Tryz.func74 rfl Tryz.ntmps74 Tryz.results74 rfl (by first | rfl | assumption) (Nat.le_of_ble_eq_true rfl) (by kernel_rfl) ?_
    simp only [push_cast, Nat.reduceAdd, Nat.reduceSub, Nat.reduceMul, Nat.reduceLT, Nat.reduceLeDiff, Nat.reduceEqDiff, Nat.reduceMod, Nat.reduceDiv, Int.reduceAdd, Int.reduceSub, Int.reduceMul, Int.reduceLT, Int.reduceLE, Int.reduceEq, Int.reduceNeg, Int.reduceToNat, reduceIte, reduceCtorEq, Int.reduceBEq, Int.reduceBNe]
    intro b1 b2 hb2
    refine (indexFunc_ok (H := [⟨b1, 0, .ro, k.cells⟩]) (l := []) (q := q) (c := c) (caps := [.pointer (some ⟨b1, 0, none⟩)]) (f := fun x => decide (x.key = k)) rfl ?_ hn (.inl rfl) (fun x h => by cases h)).pure ?_ ?_
    · exact ⟨⟨rfl, by simp only [push_cast, Nat.reduceAdd, Nat.reduceSub, Nat.reduceMul, Nat.reduceLT, Nat.reduceLeDiff, Nat.reduceEqDiff, Nat.reduceMod, Nat.reduceDiv, Int.reduceAdd, Int.reduceSub, Int.reduceMul, Int.reduceLT, Int.reduceLE, Int.reduceEq, Int.reduceNeg, Int.reduceToNat, reduceIte, reduceCtorEq, Int.reduceBEq, Int.reduceBNe]⟩, trivial⟩
    · simp only [push_cast, Nat.reduceAdd, Nat.reduceSub, Nat.reduceMul, Nat.reduceLT, Nat.reduceLeDiff, Nat.reduceEqDiff, Nat.reduceMod, Nat.reduceDiv, Int.reduceAdd, Int.reduceSub, Int.reduceMul, Int.reduceLT, Int.reduceLE, Int.reduceEq, Int.reduceNeg, Int.reduceToNat, reduceIte, reduceCtorEq, Int.reduceBEq, Int.reduceBNe, hb2]
    have h0 : idxI (fun x => decide (x.key = k)) [] = -1 := rfl
    have h1 : getW [] k = W.zero := rfl
    simp only [push_cast, Nat.reduceAdd, Nat.reduceSub, Nat.reduceMul, Nat.reduceLT, Nat.reduceLeDiff, Nat.reduceEqDiff, Nat.reduceMod, Nat.reduceDiv, Int.reduceAdd, Int.reduceSub, Int.reduceMul, Int.reduceLT, Int.reduceLE, Int.reduceEq, Int.reduceNeg, Int.reduceToNat, reduceIte, reduceCtorEq, Int.reduceBEq, Int.reduceBNe, h0, h1, hb2]
  · refine callsO (noG_ok _) Tryz.mix Tryz.pl74 Tryz.func74 rfl Tryz.ntmps74 Tryz.results74 rfl (by first | rfl | assumption) (Nat.le_of_ble_eq_true rfl) (by kernel_rfl) ?_
    simp only [push_cast, Nat.reduceAdd, Nat.reduceSub, Nat.reduceMul, Nat.reduceLT, Nat.reduceLeDiff, Nat.reduceEqDiff, Nat.reduceMod, Nat.reduceDiv, Int.reduceAdd, Int.reduceSub, Int.reduceMul, Int.reduceLT, Int.reduceLE, Int.reduceEq, Int.reduceNeg, Int.reduceToNat, reduceIte, reduceCtorEq, Int.reduceBEq, Int.reduceBNe]
    intro b1 hb1 b2 hb2
    refine (indexFunc_ok (H := [⟨b1, 0, .ro, k.cells⟩, ⟨b, o, .ro, slC l⟩]) (l := l) (q := some ⟨b, o, none⟩) (c := c) (caps := [.pointer (some ⟨b1, 0, none⟩)]) (f := fun x => decide (x.key = k)) rfl ?_ hn (.inr ⟨b, o, rfl, ?_⟩) (fun x h => ?_)).pure ?_ ?_
    · simp only [push_cast, Nat.reduceAdd, Nat.reduceSub, Nat.reduceMul, Nat.reduceLT, Nat.reduceLeDiff, Nat.reduceEqDiff, Nat.reduceMod, Nat.reduceDiv, Int.reduceAdd, Int.reduceSub, Int.reduceMul, Int.reduceLT, Int.reduceLE, Int.reduceEq, Int.reduceNeg, Int.reduceToNat, reduceIte, reduceCtorEq, Int.reduceBEq, Int.reduceBNe, hb1, slC_len, slC_take]
    · simp only [push_cast, Nat.reduceAdd, Nat.reduceSub, Nat.reduceMul, Nat.reduceLT, Nat.reduceLeDiff, Nat.reduceEqDiff, Nat.reduceMod, Nat.reduceDiv, Int.reduceAdd, Int.reduceSub, Int.reduceMul, Int.reduceLT, Int.reduceLE, Int.reduceEq, Int.reduceNeg, Int.reduceToNat, reduceIte, reduceCtorEq, Int.reduceBEq, Int.reduceBNe, hb1]
    · exact (get1_ok x k b1).ret0 (by simp only [push_cast, Nat.reduceAdd, Nat.reduceSub, Nat.reduceMul, Nat.reduceLT, Nat.reduceLeDiff, Nat.reduceEqDiff, Nat.reduceMod, Nat.reduceDiv, Int.reduceAdd, Int.reduceSub, Int.reduceMul, Int.reduceLT, Int.reduceLE, Int.reduceEq, Int.reduceNeg, Int.reduceToNat, reduceIte, reduceCtorEq, Int.reduceBEq, Int.reduceBNe]) rfl
    · simp only [push_cast, Nat.reduceAdd, Nat.reduceSub, Nat.reduceMul, Nat.reduceLT, Nat.reduceLeDiff, Nat.reduceEqDiff, Nat.reduceMod, Nat.reduceDiv, Int.reduceAdd, Int.reduceSub, Int.reduceMul, Int.reduceLT, Int.reduceLE, Int.reduceEq, Int.reduceNeg, Int.reduceToNat, reduceIte, reduceCtorEq, Int.reduceBEq, Int.reduceBNe, hb2, hb1, slC_len, slC_take]
    rcases idxI_find (fun x => decide (x.key = k)) l with ⟨h0, h1⟩ | ⟨i, x, h0, h1, h2⟩
    · have h3 : getW l k = W.zero := by unfold getW; rw [h1]; rfl
      simp only [push_cast, Nat.reduceAdd, Nat.reduceSub, Nat.reduceMul, Nat.reduceLT, Nat.reduceLeDiff, Nat.reduceEqDiff, Nat.reduceMod, Nat.reduceDiv, Int.reduceAdd, Int.reduceSub, Int.reduceMul, Int.reduceLT, Int.reduceLE, Int.reduceEq, Int.reduceNeg, Int.reduceToNat, reduceIte, reduceCtorEq, Int.reduceBEq, Int.reduceBNe, h0, h3, hb2]
    · have h3 : getW l k = x.val := by unfold getW; rw [h2]; rfl
      have hi := (List.getElem?_eq_some_iff.1 h1).1
      have hat := slC_at h1
      have e1 : ¬ (i : Int) < 0 := by omega
      simp only [push_cast, Nat.reduceAdd, Nat.reduceSub, Nat.reduceMul, Nat.reduceLT, Nat.reduceLeDiff, Nat.reduceEqDiff, Nat.reduceMod, Nat.reduceDiv, Int.reduceAdd, Int.reduceSub, Int.reduceMul, Int.reduceLT, Int.reduceLE, Int.reduceEq, Int.reduceNeg, Int.reduceToNat, reduceIte, reduceCtorEq, Int.reduceBEq, Int.reduceBNe, h0, h3, hb2, hb1, e1, hi, hat]
end Go.Proofs.YtkhpncfgimlleaaGreat
set_option linter.unusedSimpArgs false
set_option linter.unusedVariables false
namespace Go.Ev
structure Bo where
  key : W
  a : W
  b : W
  inB : Bool
def Bo.cells (x : Bo) : List Value := x.key.cells ++ (x.a.cells ++ (x.b.cells ++ [.bool x.inB]))
def Bo.v (x : Bo) : Value := .agg x.cells.toArray
def joinS : List Sl → List Sl → List Bo
  | [], [] => []
  | x :: r, [] => ⟨x.key, x.val, W.zero, false⟩ :: joinS r []
  | [], y :: s => ⟨y.key, W.zero, y.val, true⟩ :: joinS [] s
  | x :: r, y :: s => if x.key.num < y.key.num then ⟨x.key, x.val, W.zero, false⟩ :: joinS r (y :: s)
    else if y.key.num < x.key.num then ⟨y.key, W.zero, y.val, true⟩ :: joinS (x :: r) s
    else ⟨y.key, x.val, y.val, true⟩ :: joinS r s
termination_by a b => a.length + b.length
theorem findE_appT {b : Nat} {e : Ent} {B : Hp} : ∀ {A : Hp}, findE A b = some e → findE (A ++ B) b = some e
  | [], h => by simp [findE] at h
  | x :: r, h => by
    simp only [findE, List.cons_append] at h ⊢
    split
    · rename_i hx; rw [if_pos hx] at h; exact h
    · rename_i hx; rw [if_neg hx] at h; exact findE_appT h
def SufS (H : Hp) (l : List Sl) (b : Nat) (i : Nat) (v : Value) : Prop :=
  (i = l.length ∧ ∃ p c, v = .slice p 0 c) ∨ (i < l.length ∧ ∃ c, l.length ≤ c ∧ v = .slice (some ⟨b, i * 8, none⟩) (l.length - i) (c - i) ∧ ∃ k, findE H b = some ⟨b, 0, k, slC l⟩)
theorem subH_app (M : Hp) : ∀ (L : Hp), subH (L ++ M) L
  | [] => by cases M <;> exact trivial
  | e :: r => ⟨by simp [findE], by simpa [remE] using subH_app M r⟩
theorem subH_app2 (A B M : Hp) : subH (A ++ (B ++ M)) (A ++ B) := by rw [← List.append_assoc]; exact subH_app M _
theorem YieldV.frame2 {P : Program} {l : Nat} {args : List Value} {A H : Hp} {e : Ent} {K K' : Value → Hp → Prop} (hy : YieldV P l args H K) (hro : ∀ v H', K v H' → ∀ e ∈ H', e.wr ∨ e ∈ H) (hm : marksOf [e] = [])
    (hk : ∀ v H', K v H' → K' v (A ++ (H' ++ [e]))) : YieldV P l args (e :: (A ++ H)) K' := by
  have h := hy.frame (A := e :: A) (K' := fun v H'' => ∃ H', K v H' ∧ H'' = (e :: A) ++ H') hro (fun v H' h => ⟨H', h, rfl⟩)
  intro w0 mu w hs
  obtain ⟨fn, tmps, assign, body, h1, h2⟩ := h w0 mu w hs
  refine ⟨fn, tmps, assign, body, h1, h2.mono ?_⟩
  rintro e' w' ⟨v, _, rfl, ⟨H', hK, rfl⟩, hs', hm'⟩
  have hp : ((e :: A) ++ H').Perm (A ++ (H' ++ [e])) := by rw [← List.append_assoc]; exact (List.perm_append_singleton e (A ++ H')).symm
  refine ⟨v, _, rfl, hk v H' hK, hs'.perm hp, ?_⟩
  have e1 : ∀ L : Hp, marksOf (e :: (A ++ L)) = marksOf (A ++ L) := fun L => by
    rw [show e :: (A ++ L) = [e] ++ (A ++ L) from rfl, marks_append, hm]; rfl
  rw [← List.append_assoc, marks_append, hm, List.append_nil]
  have h3 : marksOf (e :: (A ++ H')) = marksOf (e :: (A ++ H)) := hm'
  rw [e1, e1] at h3
  rw [e1]
  exact h3
theorem SufS.next {H : Hp} {l : List Sl} {b j m c : Nat} {k : Kind} (hj : l.length - j = m + 1) (hc : l.length ≤ c) (hf : findE H b = some ⟨b, 0, k, slC l⟩) :
    SufS H l b (j + 1) (.slice (if c - j = 1 then some ⟨b, j * 8, none⟩ else some ⟨b, j * 8 + 8, none⟩) (m + 1 - 1) (c - j - 1)) := by
  cases m with
  | zero => exact .inl ⟨by omega, _, _, rfl⟩
  | succ m =>
    refine .inr ⟨by omega, c, hc, ?_, k, hf⟩
    rw [if_neg (by omega), show l.length - (j + 1) = m + 1 + 1 - 1 by omega, show c - (j + 1) = c - j - 1 by omega, show (j + 1) * 8 = j * 8 + 8 by omega]
end Go.Ev
namespace Go.Proofs.YtkhpncfgimlleaaGreat
open Go Go.Ev Go.Proofs
set_option maxRecDepth 100000
set_option maxHeartbeats 4000000
theorem with1_ok {Hc : Hp} {a b : List Sl} {va vb : Value} {b2 b3 ba bb : Nat} (hn : a.length + b.length ≤ 4000) (hmc : marksOf Hc = [])
    (h2 : findE Hc b2 = some ⟨b2, 0, .cel 123, [va, .func (.func 100) #[] #[]]⟩) (h3 : findE Hc b3 = some ⟨b3, 0, .cel 123, [vb, .func (.func 100) #[] #[]]⟩)
    (ha : SufS Hc a ba 0 va) (hb : SufS Hc b bb 0 vb) :
    IterV Tryz.prog 101 [.pointer (some ⟨b2, 0, none⟩), .pointer (some ⟨b3, 0, none⟩)] Hc ((joinS a b).map fun x => [x.v]) := by
  refine ⟨enterO Tryz.func101 rfl rfl, fun X Ho I St l x0 hro hmk h0 hy => ?_⟩
  have hmarks : ∀ x, marksOf (Hc ++ Ho x) = [] := fun x => by rw [marks_append, hmc, hmk]; rfl
  have hm0 := hmarks x0
  refine callsO gB_ok Tryz.mix Tryz.pl101 Tryz.func101 rfl Tryz.ntmps101 Tryz.results101 rfl (by first | rfl | assumption) (Nat.le_of_ble_eq_true rfl) (by kernel_rfl) ?_
  have h2' := fun x => findE_appT (B := Ho x) h2
  have h3' := fun x => findE_appT (B := Ho x) h3
  simp only [push_cast, Nat.reduceAdd, Nat.reduceSub, Nat.reduceMul, Nat.reduceLT, Nat.reduceLeDiff, Nat.reduceEqDiff, Nat.reduceMod, Nat.reduceDiv, Int.reduceAdd, Int.reduceSub, Int.reduceMul, Int.reduceLT, Int.reduceLE, Int.reduceEq, Int.reduceNeg, Int.reduceToNat, reduceIte, reduceCtorEq, Int.reduceBEq, Int.reduceBNe, h2', h3']
  refine loopO gB_ok (pl := Tryz.pl101) Tryz.mix (X := Nat × Nat × Nat × Value × Value × X)
    (fun s => ([(0, .func (.yield l) #[] #[]), (1, .pointer (some ⟨b2, 0, none⟩)), (2, .pointer (some ⟨b3, 0, none⟩)), (4, s.2.2.2.1), (5, s.2.2.2.2.1)], Hc ++ Ho s.2.2.2.2.2))
    (fun s => s.1 ≤ (joinS a b).length ∧ (joinS a b).drop s.1 = joinS (a.drop s.2.1) (b.drop s.2.2.1) ∧ I s.1 s.2.2.2.2.2 ∧ SufS Hc a ba s.2.1 s.2.2.2.1 ∧ SufS Hc b bb s.2.2.1 s.2.2.2.2.1) (fun s => (a.length - s.2.1) + (b.length - s.2.2.1)) (0, 0, 0, va, vb, x0) ?_ ?_ (by kernel_rfl) ?_
  · exact ⟨Nat.zero_le _, rfl, h0, ha, hb⟩
  · simp only [push_cast, Nat.reduceAdd, Nat.reduceSub, Nat.reduceMul, Nat.reduceLT, Nat.reduceLeDiff, Nat.reduceEqDiff, Nat.reduceMod, Nat.reduceDiv, Int.reduceAdd, Int.reduceSub, Int.reduceMul, Int.reduceLT, Int.reduceLE, Int.reduceEq, Int.reduceNeg, Int.reduceToNat, reduceIte, reduceCtorEq, Int.reduceBEq, Int.reduceBNe, hm0]
  · rintro ⟨k, i, j, ua, ub, x⟩ ⟨hkl, hd, hi, hua, hub⟩
    dsimp only at hkl hd hi hua hub ⊢
    have nxt : ∀ (y : Bo) (rest : List Bo), joinS (a.drop i) (b.drop j) = y :: rest → (joinS a b)[k]? = some y ∧ (joinS a b).drop (k + 1) = rest ∧ k + 1 ≤ (joinS a b).length := fun y rest h => by
      rw [← hd] at h
      have hlt : k < (joinS a b).length := by
        rcases Nat.lt_or_ge k (joinS a b).length with h1 | h1
        · exact h1
        · rw [List.drop_eq_nil_of_le h1] at h; cases h
      rw [List.drop_eq_getElem_cons hlt] at h
      cases h
      exact ⟨List.getElem?_eq_getElem hlt, rfl, hlt⟩
    have yl : ∀ (y : Bo) (rest : List Bo) (e : Ent) (K' : Value → Hp → Prop), joinS (a.drop i) (b.drop j) = y :: rest → marksOf [e] = [] → (∀ x', I (k + 1) x' → K' (.bool true) (Hc ++ (Ho x' ++ [e]))) → (∀ x', St x' → K' (.bool false) (Hc ++ (Ho x' ++ [e]))) → YieldV Tryz.prog l [y.v] (e :: (Hc ++ Ho x)) K' := fun y rest e K' hj hm ht hf => by
      refine (hy k x [y.v] (by rw [List.getElem?_map, (nxt y rest hj).1]; rfl) hi).frame2 ?_ hm ?_
      · rintro v H' (⟨rfl, x', _, rfl⟩ | ⟨rfl, x', _, rfl⟩) <;> exact hro x x'
      · rintro v H' (⟨rfl, x', h, rfl⟩ | ⟨rfl, x', h, rfl⟩)
        · exact ht x' h
        · exact hf x' h
    have yf : ∀ (x' : X) (e : Ent), marksOf [e] = [] → St x' → ∃ H'_1, List.Sublist H'_1 (dropM (Hc ++ (Ho x' ++ [e]))) ∧ ∃ x, (I (List.map (fun x => [x.v]) (joinS a b)).length x ∨ St x) ∧ H'_1 = Ho x := fun x' e hm hst => by
      refine ⟨Ho x', ?_, x', .inr hst, rfl⟩
      rw [← List.append_assoc, dropM_eq (by rw [marks_append, hmarks, hm]; rfl)]
      exact (List.sublist_append_right _ _).trans (List.sublist_append_left _ _)
    have mks : ∀ (x' : X) (e : Ent), marksOf [e] = [] → marksOf (Hc ++ Ho x') = marksOf (Hc ++ (Ho x' ++ [e])) := fun x' e h => by
      rw [← List.append_assoc, marks_append (Hc ++ Ho x') [e], h, List.append_nil]
    rcases hua with ⟨rfl, pa, ca, rfl⟩ | ⟨hia, ca, hca, rfl, ka, hea⟩
    · rcases hub with ⟨rfl, pb, cb, rfl⟩ | ⟨hib, cb, hcb, rfl, kb, heb⟩
      · have hend : k = (joinS a b).length := by
          have := congrArg List.length hd
          simp [joinS] at this
          omega
        subst hend
        simp only [push_cast, Nat.reduceAdd, Nat.reduceSub, Nat.reduceMul, Nat.reduceLT, Nat.reduceLeDiff, Nat.reduceEqDiff, Nat.reduceMod, Nat.reduceDiv, Int.reduceAdd, Int.reduceSub, Int.reduceMul, Int.reduceLT, Int.reduceLE, Int.reduceEq, Int.reduceNeg, Int.reduceToNat, reduceIte, reduceCtorEq, Int.reduceBEq, Int.reduceBNe, Int.lt_irrefl]
        refine ⟨Ho x, ?_, x, .inl ?_, rfl⟩
        · rw [dropM_eq (hmarks x)]; exact List.sublist_append_right _ _
        · simpa using hi
      · obtain ⟨yb, hyb⟩ : ∃ y, b[j]? = some y := ⟨b[j], List.getElem?_eq_getElem hib⟩
        have hatb := slC_at hyb
        have hgb : findE (Hc ++ Ho x) bb = some ⟨bb, 0, kb, slC b⟩ := findE_appT heb
        obtain ⟨m, hmb⟩ : ∃ m, b.length - j = m + 1 := ⟨b.length - j - 1, by omega⟩
        rw [hmb]
        have e1 : (0 : Int) < (m : Int) + 1 := by omega
        have e2 : m + 1 ≤ cb - j := by omega
        have e3 : (1 : Int) ≤ (m : Int) + 1 := by omega
        simp only [push_cast, Nat.reduceAdd, Nat.reduceSub, Nat.reduceMul, Nat.reduceLT, Nat.reduceLeDiff, Nat.reduceEqDiff, Nat.reduceMod, Nat.reduceDiv, Int.reduceAdd, Int.reduceSub, Int.reduceMul, Int.reduceLT, Int.reduceLE, Int.reduceEq, Int.reduceNeg, Int.reduceToNat, reduceIte, reduceCtorEq, Int.reduceBEq, Int.reduceBNe, e1, wrap_i64' (show -9223372036854775808 ≤ (m : Int) + 1 ∧ (m : Int) + 1 ≤ 9223372036854775807 by omega), Int.zero_add, beq_self_eq_true, Nat.zero_lt_succ]
        intro b7 hb7
        have hf7 := fresh_find hb7 hgb
        simp only [push_cast, Nat.reduceAdd, Nat.reduceSub, Nat.reduceMul, Nat.reduceLT, Nat.reduceLeDiff, Nat.reduceEqDiff, Nat.reduceMod, Nat.reduceDiv, Int.reduceAdd, Int.reduceSub, Int.reduceMul, Int.reduceLT, Int.reduceLE, Int.reduceEq, Int.reduceNeg, Int.reduceToNat, reduceIte, reduceCtorEq, Int.reduceBEq, Int.reduceBNe, hf7, hgb, hatb, e2, e3, Nat.zero_le]
        have hj : joinS (a.drop a.length) (b.drop j) = ⟨yb.key, W.zero, yb.val, true⟩ :: joinS (a.drop a.length) (b.drop (j + 1)) := by
          rw [List.drop_length, List.drop_eq_getElem_cons hib, (List.getElem?_eq_some_iff.1 hyb).2, joinS]
        try simp only [and_self]
        refine yl ⟨yb.key, W.zero, yb.val, true⟩ _ _ _ hj rfl (fun x' hx' => ?_) (fun x' hx' => ?_)
        · simp only [push_cast, Nat.reduceAdd, Nat.reduceSub, Nat.reduceMul, Nat.reduceLT, Nat.reduceLeDiff, Nat.reduceEqDiff, Nat.reduceMod, Nat.reduceDiv, Int.reduceAdd, Int.reduceSub, Int.reduceMul, Int.reduceLT, Int.reduceLE, Int.reduceEq, Int.reduceNeg, Int.reduceToNat, reduceIte, reduceCtorEq, Int.reduceBEq, Int.reduceBNe]
          refine ⟨(k + 1, a.length, j + 1, _, _, x'), ⟨(nxt _ _ hj).2.2, (nxt _ _ hj).2.1, hx', .inl ⟨rfl, pa, ca, rfl⟩, SufS.next hmb hcb heb⟩, ?_, ⟨rfl, rfl⟩, subH_app2 _ _ _, mks x' _ rfl⟩
          dsimp only; omega
        · simp only [push_cast, Nat.reduceAdd, Nat.reduceSub, Nat.reduceMul, Nat.reduceLT, Nat.reduceLeDiff, Nat.reduceEqDiff, Nat.reduceMod, Nat.reduceDiv, Int.reduceAdd, Int.reduceSub, Int.reduceMul, Int.reduceLT, Int.reduceLE, Int.reduceEq, Int.reduceNeg, Int.reduceToNat, reduceIte, reduceCtorEq, Int.reduceBEq, Int.reduceBNe]
          exact yf x' _ rfl hx'
    · obtain ⟨ya, hya⟩ : ∃ y, a[i]? = some y := ⟨a[i], List.getElem?_eq_getElem hia⟩
      have hata := slC_at hya
      have hga : findE (Hc ++ Ho x) ba = some ⟨ba, 0, ka, slC a⟩ := findE_appT hea
      obtain ⟨m, hma⟩ : ∃ m, a.length - i = m + 1 := ⟨a.length - i - 1, by omega⟩
      rw [hma]
      have e2 : m + 1 ≤ ca - i := by omega
      have e3 : (1 : Int) ≤ (m : Int) + 1 := by omega
      have e5 : ((m : Int) + 1 == 0) = false := by rw [beq_eq_false_iff_ne]; omega
      rcases hub with ⟨rfl, pb, cb, rfl⟩ | ⟨hib, cb, hcb, rfl, kb, heb⟩
      · have e1 : (0 : Int) < (m : Int) + 1 := by omega
        simp only [push_cast, Nat.reduceAdd, Nat.reduceSub, Nat.reduceMul, Nat.reduceLT, Nat.reduceLeDiff, Nat.reduceEqDiff, Nat.reduceMod, Nat.reduceDiv, Int.reduceAdd, Int.reduceSub, Int.reduceMul, Int.reduceLT, Int.reduceLE, Int.reduceEq, Int.reduceNeg, Int.reduceToNat, reduceIte, reduceCtorEq, Int.reduceBEq, Int.reduceBNe, e1, e5, wrap_i64' (show -9223372036854775808 ≤ (m : Int) + 1 ∧ (m : Int) + 1 ≤ 9223372036854775807 by omega), Int.add_zero, beq_self_eq_true, Nat.zero_lt_succ]
        intro b7 hb7
        have hf7 := fresh_find hb7 hga
        simp only [push_cast, Nat.reduceAdd, Nat.reduceSub, Nat.reduceMul, Nat.reduceLT, Nat.reduceLeDiff, Nat.reduceEqDiff, Nat.reduceMod, Nat.reduceDiv, Int.reduceAdd, Int.reduceSub, Int.reduceMul, Int.reduceLT, Int.reduceLE, Int.reduceEq, Int.reduceNeg, Int.reduceToNat, reduceIte, reduceCtorEq, Int.reduceBEq, Int.reduceBNe, hf7, hga, hata, e2, e3, Nat.zero_le]
        have hj : joinS (a.drop i) (b.drop b.length) = ⟨ya.key, ya.val, W.zero, false⟩ :: joinS (a.drop (i + 1)) (b.drop b.length) := by
          rw [List.drop_length, List.drop_eq_getElem_cons hia, (List.getElem?_eq_some_iff.1 hya).2, joinS]
        try simp only [and_self]
        refine yl ⟨ya.key, ya.val, W.zero, false⟩ _ _ _ hj rfl (fun x' hx' => ?_) (fun x' hx' => ?_)
        · simp only [push_cast, Nat.reduceAdd, Nat.reduceSub, Nat.reduceMul, Nat.reduceLT, Nat.reduceLeDiff, Nat.reduceEqDiff, Nat.reduceMod, Nat.reduceDiv, Int.reduceAdd, Int.reduceSub, Int.reduceMul, Int.reduceLT, Int.reduceLE, Int.reduceEq, Int.reduceNeg, Int.reduceToNat, reduceIte, reduceCtorEq, Int.reduceBEq, Int.reduceBNe]
          refine ⟨(k + 1, i + 1, b.length, _, _, x'), ⟨(nxt _ _ hj).2.2, (nxt _ _ hj).2.1, hx', SufS.next hma hca hea, .inl ⟨rfl, pb, cb, rfl⟩⟩, ?_, ⟨rfl, rfl⟩, subH_app2 _ _ _, mks x' _ rfl⟩
          dsimp only; omega
        · simp only [push_cast, Nat.reduceAdd, Nat.reduceSub, Nat.reduceMul, Nat.reduceLT, Nat.reduceLeDiff, Nat.reduceEqDiff, Nat.reduceMod, Nat.reduceDiv, Int.reduceAdd, Int.reduceSub, Int.reduceMul, Int.reduceLT, Int.reduceLE, Int.reduceEq, Int.reduceNeg, Int.reduceToNat, reduceIte, reduceCtorEq, Int.reduceBEq, Int.reduceBNe]
          exact yf x' _ rfl hx'
      · obtain ⟨yb, hyb⟩ : ∃ y, b[j]? = some y := ⟨b[j], List.getElem?_eq_getElem hib⟩
        have hatb := slC_at hyb
        have hgb : findE (Hc ++ Ho x) bb = some ⟨bb, 0, kb, slC b⟩ := findE_appT heb
        obtain ⟨q, hmb⟩ : ∃ m, b.length - j = m + 1 := ⟨b.length - j - 1, by omega⟩
        rw [hmb]
        have e1 : (0 : Int) < (m : Int) + 1 + ((q : Int) + 1) := by omega
        have e6 : (0 : Int) < (m : Int) + 1 := by omega
        have d6 : (0 : Int) < (q : Int) + 1 := by omega
        have d2 : q + 1 ≤ cb - j := by omega
        have d3 : (1 : Int) ≤ (q : Int) + 1 := by omega
        have d5 : ((q : Int) + 1 == 0) = false := by rw [beq_eq_false_iff_ne]; omega
        have hda : a.drop i = ya :: a.drop (i + 1) := by rw [List.drop_eq_getElem_cons hia, (List.getElem?_eq_some_iff.1 hya).2]
        have hdb : b.drop j = yb :: b.drop (j + 1) := by rw [List.drop_eq_getElem_cons hib, (List.getElem?_eq_some_iff.1 hyb).2]
        rcases Nat.lt_trichotomy ya.key.num yb.key.num with hlt | heq | hgt
        · have hc : ya.key.cmp yb.key = -1 := (W.cmp_lt hlt).symm
          simp only [push_cast, Nat.reduceAdd, Nat.reduceSub, Nat.reduceMul, Nat.reduceLT, Nat.reduceLeDiff, Nat.reduceEqDiff, Nat.reduceMod, Nat.reduceDiv, Int.reduceAdd, Int.reduceSub, Int.reduceMul, Int.reduceLT, Int.reduceLE, Int.reduceEq, Int.reduceNeg, Int.reduceToNat, reduceIte, reduceCtorEq, Int.reduceBEq, Int.reduceBNe, h2', h3', hga, hgb, hata, hatb, hc, e1, e5, d5, e6, d6, wrap_i64' (show -9223372036854775808 ≤ (m : Int) + 1 + ((q : Int) + 1) ∧ (m : Int) + 1 + ((q : Int) + 1) ≤ 9223372036854775807 by omega), Nat.zero_lt_succ, Nat.zero_le]
          intro b7 hb7
          have hf7 := fresh_find hb7 hga
          simp only [push_cast, Nat.reduceAdd, Nat.reduceSub, Nat.reduceMul, Nat.reduceLT, Nat.reduceLeDiff, Nat.reduceEqDiff, Nat.reduceMod, Nat.reduceDiv, Int.reduceAdd, Int.reduceSub, Int.reduceMul, Int.reduceLT, Int.reduceLE, Int.reduceEq, Int.reduceNeg, Int.reduceToNat, reduceIte, reduceCtorEq, Int.reduceBEq, Int.reduceBNe, hf7, hga, hata, e2, e3, Nat.zero_le]
          have hj : joinS (a.drop i) (b.drop j) = ⟨ya.key, ya.val, W.zero, false⟩ :: joinS (a.drop (i + 1)) (b.drop j) := by
            rw [hda, hdb, joinS, if_pos hlt]
          try simp only [and_self]
          refine yl ⟨ya.key, ya.val, W.zero, false⟩ _ _ _ hj rfl (fun x' hx' => ?_) (fun x' hx' => ?_)
          · simp only [push_cast, Nat.reduceAdd, Nat.reduceSub, Nat.reduceMul, Nat.reduceLT, Nat.reduceLeDiff, Nat.reduceEqDiff, Nat.reduceMod, Nat.reduceDiv, Int.reduceAdd, Int.reduceSub, Int.reduceMul, Int.reduceLT, Int.reduceLE, Int.reduceEq, Int.reduceNeg, Int.reduceToNat, reduceIte, reduceCtorEq, Int.reduceBEq, Int.reduceBNe]
            refine ⟨(k + 1, i + 1, j, _, _, x'), ⟨(nxt _ _ hj).2.2, (nxt _ _ hj).2.1, hx', SufS.next hma hca hea, .inr ⟨hib, cb, hcb, by rw [hmb], kb, heb⟩⟩, ?_, ⟨rfl, rfl⟩, subH_app2 _ _ _, mks x' _ rfl⟩
            dsimp only; omega
          · simp only [push_cast, Nat.reduceAdd, Nat.reduceSub, Nat.reduceMul, Nat.reduceLT, Nat.reduceLeDiff, Nat.reduceEqDiff, Nat.reduceMod, Nat.reduceDiv, Int.reduceAdd, Int.reduceSub, Int.reduceMul, Int.reduceLT, Int.reduceLE, Int.reduceEq, Int.reduceNeg, Int.reduceToNat, reduceIte, reduceCtorEq, Int.reduceBEq, Int.reduceBNe]
            exact yf x' _ rfl hx'
        · have hc : ya.key.cmp yb.key = 0 := (W.cmp_eq heq).symm
          simp only [push_cast, Nat.reduceAdd, Nat.reduceSub, Nat.reduceMul, Nat.reduceLT, Nat.reduceLeDiff, Nat.reduceEqDiff, Nat.reduceMod, Nat.reduceDiv, Int.reduceAdd, Int.reduceSub, Int.reduceMul, Int.reduceLT, Int.reduceLE, Int.reduceEq, Int.reduceNeg, Int.reduceToNat, reduceIte, reduceCtorEq, Int.reduceBEq, Int.reduceBNe, h2', h3', hga, hgb, hata, hatb, hc, e1, e5, d5, e6, d6, wrap_i64' (show -9223372036854775808 ≤ (m : Int) + 1 + ((q : Int) + 1) ∧ (m : Int) + 1 + ((q : Int) + 1) ≤ 9223372036854775807 by omega), Nat.zero_lt_succ, Nat.zero_le]
          intro b7 hb7
          have hf7 := fresh_find hb7 hga
          have hg7 := fresh_find hb7 hgb
          simp only [push_cast, Nat.reduceAdd, Nat.reduceSub, Nat.reduceMul, Nat.reduceLT, Nat.reduceLeDiff, Nat.reduceEqDiff, Nat.reduceMod, Nat.reduceDiv, Int.reduceAdd, Int.reduceSub, Int.reduceMul, Int.reduceLT, Int.reduceLE, Int.reduceEq, Int.reduceNeg, Int.reduceToNat, reduceIte, reduceCtorEq, Int.reduceBEq, Int.reduceBNe, hf7, hg7, hga, hata, hgb, hatb, e2, e3, d2, d3, Nat.zero_le]
          have hj : joinS (a.drop i) (b.drop j) = ⟨yb.key, ya.val, yb.val, true⟩ :: joinS (a.drop (i + 1)) (b.drop (j + 1)) := by
            rw [hda, hdb, joinS, if_neg (by omega), if_neg (by omega)]
          try simp only [and_self]
          refine yl ⟨yb.key, ya.val, yb.val, true⟩ _ _ _ hj rfl (fun x' hx' => ?_) (fun x' hx' => ?_)
          · simp only [push_cast, Nat.reduceAdd, Nat.reduceSub, Nat.reduceMul, Nat.reduceLT, Nat.reduceLeDiff, Nat.reduceEqDiff, Nat.reduceMod, Nat.reduceDiv, Int.reduceAdd, Int.reduceSub, Int.reduceMul, Int.reduceLT, Int.reduceLE, Int.reduceEq, Int.reduceNeg, Int.reduceToNat, reduceIte, reduceCtorEq, Int.reduceBEq, Int.reduceBNe]
            refine ⟨(k + 1, i + 1, j + 1, _, _, x'), ⟨(nxt _ _ hj).2.2, (nxt _ _ hj).2.1, hx', SufS.next hma hca hea, SufS.next hmb hcb heb⟩, ?_, ⟨rfl, rfl⟩, subH_app2 _ _ _, mks x' _ rfl⟩
            dsimp only; omega
          · simp only [push_cast, Nat.reduceAdd, Nat.reduceSub, Nat.reduceMul, Nat.reduceLT, Nat.reduceLeDiff, Nat.reduceEqDiff, Nat.reduceMod, Nat.reduceDiv, Int.reduceAdd, Int.reduceSub, Int.reduceMul, Int.reduceLT, Int.reduceLE, Int.reduceEq, Int.reduceNeg, Int.reduceToNat, reduceIte, reduceCtorEq, Int.reduceBEq, Int.reduceBNe]
            exact yf x' _ rfl hx'
        · have hc : ya.key.cmp yb.key = 1 := (W.cmp_gt hgt).symm
          simp only [push_cast, Nat.reduceAdd, Nat.reduceSub, Nat.reduceMul, Nat.reduceLT, Nat.reduceLeDiff, Nat.reduceEqDiff, Nat.reduceMod, Nat.reduceDiv, Int.reduceAdd, Int.reduceSub, Int.reduceMul, Int.reduceLT, Int.reduceLE, Int.reduceEq, Int.reduceNeg, Int.reduceToNat, reduceIte, reduceCtorEq, Int.reduceBEq, Int.reduceBNe, h2', h3', hga, hgb, hata, hatb, hc, e1, e5, d5, e6, d6, wrap_i64' (show -9223372036854775808 ≤ (m : Int) + 1 + ((q : Int) + 1) ∧ (m : Int) + 1 + ((q : Int) + 1) ≤ 9223372036854775807 by omega), Nat.zero_lt_succ, Nat.zero_le]
          intro b7 hb7
          have hg7 := fresh_find hb7 hgb
          simp only [push_cast, Nat.reduceAdd, Nat.reduceSub, Nat.reduceMul, Nat.reduceLT, Nat.reduceLeDiff, Nat.reduceEqDiff, Nat.reduceMod, Nat.reduceDiv, Int.reduceAdd, Int.reduceSub, Int.reduceMul, Int.reduceLT, Int.reduceLE, Int.reduceEq, Int.reduceNeg, Int.reduceToNat, reduceIte, reduceCtorEq, Int.reduceBEq, Int.reduceBNe, hg7, hgb, hatb, d2, d3, Nat.zero_le]
          have hj : joinS (a.drop i) (b.drop j) = ⟨yb.key, W.zero, yb.val, true⟩ :: joinS (a.drop i) (b.drop (j + 1)) := by
            rw [hda, hdb, joinS, if_neg (by omega), if_pos hgt]
          try simp only [and_self]
          refine yl ⟨yb.key, W.zero, yb.val, true⟩ _ _ _ hj rfl (fun x' hx' => ?_) (fun x' hx' => ?_)
          · simp only [push_cast, Nat.reduceAdd, Nat.reduceSub, Nat.reduceMul, Nat.reduceLT, Nat.reduceLeDiff, Nat.reduceEqDiff, Nat.reduceMod, Nat.reduceDiv, Int.reduceAdd, Int.reduceSub, Int.reduceMul, Int.reduceLT, Int.reduceLE, Int.reduceEq, Int.reduceNeg, Int.reduceToNat, reduceIte, reduceCtorEq, Int.reduceBEq, Int.reduceBNe]
            refine ⟨(k + 1, i, j + 1, _, _, x'), ⟨(nxt _ _ hj).2.2, (nxt _ _ hj).2.1, hx', .inr ⟨hia, ca, hca, by rw [hma], ka, hea⟩, SufS.next hmb hcb heb⟩, ?_, ⟨rfl, rfl⟩, subH_app2 _ _ _, mks x' _ rfl⟩
            dsimp only; omega
          · simp only [push_cast, Nat.reduceAdd, Nat.reduceSub, Nat.reduceMul, Nat.reduceLT, Nat.reduceLeDiff, Nat.reduceEqDiff, Nat.reduceMod, Nat.reduceDiv, Int.reduceAdd, Int.reduceSub, Int.reduceMul, Int.reduceLT, Int.reduceLE, Int.reduceEq, Int.reduceNeg, Int.reduceToNat, reduceIte, reduceCtorEq, Int.reduceBEq, Int.reduceBNe]
            exact yf x' _ rfl hx'
end Go.Proofs.YtkhpncfgimlleaaGreat
