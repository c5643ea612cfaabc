/- Tc: the program's functions on slots (2). -/
import Derived.Test.YtfjenfjfiinjmaaTb
set_option linter.unusedSimpArgs false
set_option linter.unusedVariables false
namespace Go.Ev
/-- the first place where f is true, or -1 -/
def idxI (f : Sl → Bool) (l : List Sl) : Int := match l.findIdx? f with | some i => i | none => -1
theorem idxI_some {f : Sl → Bool} {l : List Sl} {i : Nat} {x : Sl} (hx : l[i]? = some x) (h1 : f x = true) (h0 : ∀ (j : Nat) (y : Sl), j < i → l[j]? = some y → f y = false) : idxI f l = i := by
  obtain ⟨hi1, hi2⟩ := (List.getElem?_eq_some_iff.1 hx)
  have : l.findIdx? f = some i := by
    rw [List.findIdx?_eq_some_iff_getElem]
    refine ⟨hi1, by rw [hi2]; exact h1, fun j hj => ?_⟩
    have := h0 j (l[j]'(by omega)) hj (List.getElem?_eq_getElem (by omega))
    simp [this]
  unfold idxI; rw [this]
theorem idxI_none {f : Sl → Bool} {l : List Sl} (h0 : ∀ (j : Nat) (y : Sl), l[j]? = some y → f y = false) : idxI f l = -1 := by
  have : l.findIdx? f = none := by
    rw [List.findIdx?_eq_none_iff]
    intro x hx
    obtain ⟨j, hj⟩ := List.getElem?_of_mem hx
    exact h0 j x hj
  unfold idxI; rw [this]
theorem idxI_any {f : Sl → Bool} {l : List Sl} : decide (0 ≤ idxI f l) = l.any f := by
  rw [Bool.eq_iff_iff, decide_eq_true_eq]
  unfold idxI
  cases h : l.findIdx? f with
  | none => simpa using List.findIdx?_eq_none_iff.1 h
  | some i =>
    obtain ⟨h1, h2, _⟩ := List.findIdx?_eq_some_iff_getElem.1 h
    simp only [Int.natCast_nonneg, true_iff, List.any_eq_true]
    exact ⟨_, List.getElem_mem h1, h2⟩
theorem SlH.find {l : List Sl} {q : Option Addr} {n c : Nat} {Hf : Hp} (h : SlH l (.slice q n c) Hf) : n = l.length ∧ (l = [] ∨ ∃ b o, q = some ⟨b, o, none⟩ ∧ findE Hf b = some ⟨b, o, .ro, slC l⟩) := by
  obtain ⟨p, c', h, ⟨rfl, rfl⟩ | ⟨b, o, rfl, rfl⟩⟩ := h
  · cases h; exact ⟨rfl, .inl rfl⟩
  · cases h; exact ⟨rfl, .inr ⟨b, o, rfl, by simp [findE]⟩⟩
theorem SlH.slice {l : List Sl} {v : Value} {Hf : Hp} (h : SlH l v Hf) : ∃ q c, v = .slice q l.length c := by
  obtain ⟨p, c', rfl, _⟩ := h; exact ⟨p, c', rfl⟩
theorem idxI_find (f : Sl → Bool) (l : List Sl) : (idxI f l = -1 ∧ l.find? f = none) ∨ ∃ (i : Nat) (x : Sl), idxI f l = i ∧ l[i]? = some x ∧ l.find? f = some x := by
  unfold idxI
  cases h : l.findIdx? f with
  | none =>
    refine .inl ⟨rfl, ?_⟩
    have := List.findIdx?_eq_none_iff.1 h
    simpa using this
  | some i =>
    obtain ⟨h1, h2, h3⟩ := List.findIdx?_eq_some_iff_getElem.1 h
    refine .inr ⟨i, l[i], rfl, List.getElem?_eq_getElem h1, ?_⟩
    rw [List.find?_eq_some_iff_getElem]
    exact ⟨h2, i, h1, rfl, fun j hj => by have := h3 j hj; simpa using this⟩
noncomputable def getW (l : List Sl) (k : W) : W := ((l.find? fun x => decide (x.key = k)).map (·.val)).getD W.zero
theorem slC_take (l : List Sl) : List.take (l.length * 8) (slC l) = slC l := by rw [← slC_len, List.take_length]
noncomputable def rightB (l : List Sl) : Bool := patchB l && !(l.any fun x => decide (x.val = W.zero))
theorem CallsV.ret0 {P : Program} {g : FuncId} {args : List Value} {Hf H : Hp} {v : Value} (hc : CallsV P g args Hf (Ret0 v)) (hd : derE H Hf) (hm : marksOf H = []) : CallsV P g args H (Ret0 v) := by
  have h := hc.pure (K' := fun u H' => u = v ∧ H' = H) hd ⟨rfl, rfl⟩
  refine ⟨h.1, fun w0 mu w hs => (h.2 w0 mu w hs).mono ?_⟩
  rintro e w' ⟨u, H', rfl, ⟨rfl, rfl⟩, hs', _⟩
  exact ⟨u, [], rfl, ⟨rfl, rfl⟩, hs'.weak (List.nil_sublist _), by rw [hm]; rfl⟩
theorem W.zero_agg : Value.agg #[.int .u64 0, .int .u64 0, .int .u64 0, .int .u64 0] = W.zero.v := rfl
theorem W.ext_iff' {x y : W} : x = y ↔ x.a = y.a ∧ x.b = y.b ∧ x.c = y.c ∧ x.d = y.d := ⟨fun h => by subst h; exact ⟨rfl, rfl, rfl, rfl⟩, fun h => W.eq h.1 h.2.1 h.2.2.1 h.2.2.2⟩
theorem W.eqC (x y : W) : eqC [.i, .i, .i, .i] x.cells y.cells = some (decide (x = y)) := by
  simp only [W.cells, Go.Ev.eqC, if_true, Option.map_some, Option.some.injEq, Bool.and_true]
  rw [Bool.eq_iff_iff]
  simp only [Bool.and_eq_true, beq_iff_eq, decide_eq_true_eq, W.ext_iff', Int.ofNat_inj]
theorem W.eqV {P : Program} {t : TypeId} (x y : W) (h1 : tyI P t = some (4, true)) (h2 : P.eqGuardType P.depth t = false) (h3 : flatK P 12 t = some [.i, .i, .i, .i]) : eqV P t x.v y.v = some (decide (x = y)) := by
  unfold W.v Go.Ev.eqV
  simp only [h1, h2, h3, Option.bind_some, Bool.false_eq_true, if_false, List.toList_toArray, W.eqC]
theorem W.eql {P : Program} {t : TypeId} (x y : W) (h1 : tyI P t = some (4, true)) (h2 : P.eqGuardType P.depth t = false) (h3 : flatK P 12 t = some [.i, .i, .i, .i]) : binQ P .eql t x.v y.v = some (.bool (decide (x = y))) := by
  have := W.eqV x y h1 h2 h3
  unfold W.v at this ⊢
  simp only [binQ, this, Option.map_some]
theorem W.neq {P : Program} {t : TypeId} (x y : W) (h1 : tyI P t = some (4, true)) (h2 : P.eqGuardType P.depth t = false) (h3 : flatK P 12 t = some [.i, .i, .i, .i]) : binQ P .neq t x.v y.v = some (.bool (!decide (x = y))) := by
  have := W.eqV x y h1 h2 h3
  unfold W.v at this ⊢
  simp only [binQ, this, Option.map_some]
theorem Sl.eqC (x y : Sl) : Go.Ev.eqC [.i, .i, .i, .i, .i, .i, .i, .i] x.cells y.cells = some (decide (x = y)) := by
  simp only [Sl.cells, W.cells, List.cons_append, List.nil_append, Go.Ev.eqC, if_true, Option.map_some, Option.some.injEq, Bool.and_true]
  rw [Bool.eq_iff_iff]
  obtain ⟨xk, xv⟩ := x; obtain ⟨yk, yv⟩ := y
  simp only [Bool.and_eq_true, beq_iff_eq, decide_eq_true_eq, Sl.mk.injEq, W.ext_iff', Int.ofNat_inj]
  constructor
  · rintro ⟨a, b, c, d, e, f, g, h⟩; exact ⟨⟨a, b, c, d⟩, e, f, g, h⟩
  · rintro ⟨⟨a, b, c, d⟩, e, f, g, h⟩; exact ⟨a, b, c, d, e, f, g, h⟩
theorem Sl.eqV {P : Program} {t : TypeId} (x y : Sl) (h1 : tyI P t = some (8, true)) (h2 : P.eqGuardType P.depth t = false) (h3 : flatK P 12 t = some [.i, .i, .i, .i, .i, .i, .i, .i]) : Go.Ev.eqV P t x.v y.v = some (decide (x = y)) := by
  unfold Sl.v Go.Ev.eqV
  simp only [h1, h2, h3, Option.bind_some, Bool.false_eq_true, if_false, List.toList_toArray, Sl.eqC]
theorem Sl.neq {P : Program} {t : TypeId} (x y : Sl) (h1 : tyI P t = some (8, true)) (h2 : P.eqGuardType P.depth t = false) (h3 : flatK P 12 t = some [.i, .i, .i, .i, .i, .i, .i, .i]) : binQ P .neq t x.v y.v = some (.bool (!decide (x = y))) := by
  have := Sl.eqV x y h1 h2 h3
  unfold Sl.v at this ⊢
  simp only [binQ, this, Option.map_some]
attribute [push_cast high] W.zero_agg W.eql W.neq Sl.neq
end Go.Ev
namespace Go.Proofs.Ytfjenfjfiinjmaa
open Go Go.Ev Go.Proofs
set_option maxRecDepth 100000
set_option maxHeartbeats 4000000
theorem indexFunc_ok {H : Hp} {l : List Sl} {q : Option Addr} {c : Nat} {g : FuncId} {caps : List Value} {f : Sl → Bool} (hm : marksOf H = []) (hd : derE H H) (hn : l.length ≤ 4000)
    (hv : l = [] ∨ ∃ b o, q = some ⟨b, o, none⟩ ∧ findE H b = some ⟨b, o, .ro, slC l⟩) (hf : ∀ x ∈ l, CallsV Try.prog g (x.v :: caps) H (Ret0 (.bool (f x)))) :
    CallsV Try.prog 30 [.slice q l.length c, .func (.func g) #[] caps.toArray] H (Ret0 (.int .i64 (idxI f l))) := by
  refine callsO (noG_ok _) Try.mix Try.pl30 Try.func30 rfl Try.ntmps30 Try.results30 rfl (by first | rfl | assumption) (Nat.le_of_ble_eq_true rfl) (by kernel_rfl) ?_
  simp only [push_cast, Nat.reduceAdd, Nat.reduceSub, Nat.reduceMul, Nat.reduceLT, Nat.reduceLeDiff, Nat.reduceEqDiff, Nat.reduceMod, Nat.reduceDiv, Int.reduceAdd, Int.reduceSub, Int.reduceMul, Int.reduceLT, Int.reduceLE, Int.reduceEq, Int.reduceNeg, Int.reduceToNat, reduceIte, reduceCtorEq]
  refine loopO (noG_ok _) (pl := Try.pl30) Try.mix (X := Nat)
    (fun k => ([(0, .slice q l.length c), (1, .func (.func g) #[] caps.toArray), (7, .int .i64 l.length), (8, .int .i64 k)], H))
    (fun k => k ≤ l.length ∧ ∀ j y, j < k → l[j]? = some y → f y = false) (fun k => l.length - k) 0 ?_ ?_ (by kernel_rfl) ?_
  · exact ⟨Nat.zero_le _, fun i x h => by omega⟩
  · simp only [push_cast, Nat.reduceAdd, Nat.reduceSub, Nat.reduceMul, Nat.reduceLT, Nat.reduceLeDiff, Nat.reduceEqDiff, Nat.reduceMod, Nat.reduceDiv, Int.reduceAdd, Int.reduceSub, Int.reduceMul, Int.reduceLT, Int.reduceLE, Int.reduceEq, Int.reduceNeg, Int.reduceToNat, reduceIte, reduceCtorEq, hm]
  · rintro k ⟨hk, ho⟩
    dsimp only at hk ho ⊢
    rcases Nat.lt_or_ge k l.length with hlt | hge
    · obtain ⟨x, hx⟩ : ∃ x, l[k]? = some x := ⟨l[k], List.getElem?_eq_getElem hlt⟩
      have hat := slC_at hx
      rcases hv with rfl | ⟨b, o, rfl, hb⟩
      · simp at hlt
      have hfx := hf x (List.mem_of_getElem? hx)
      simp only [push_cast, Nat.reduceAdd, Nat.reduceSub, Nat.reduceMul, Nat.reduceLT, Nat.reduceLeDiff, Nat.reduceEqDiff, Nat.reduceMod, Nat.reduceDiv, Int.reduceAdd, Int.reduceSub, Int.reduceMul, Int.reduceLT, Int.reduceLE, Int.reduceEq, Int.reduceNeg, Int.reduceToNat, reduceIte, reduceCtorEq, hlt, hat, hb]
      refine hfx.pure hd ?_
      simp only [push_cast, Nat.reduceAdd, Nat.reduceSub, Nat.reduceMul, Nat.reduceLT, Nat.reduceLeDiff, Nat.reduceEqDiff, Nat.reduceMod, Nat.reduceDiv, Int.reduceAdd, Int.reduceSub, Int.reduceMul, Int.reduceLT, Int.reduceLE, Int.reduceEq, Int.reduceNeg, Int.reduceToNat, reduceIte, reduceCtorEq, wrap_i64' (show -9223372036854775808 ≤ (k : Int) + 1 ∧ (k : Int) + 1 ≤ 9223372036854775807 by omega)]
      simp only [sel_ite, decide_eq_true_eq, bne_iff_ne, ne_eq, beq_iff_eq]
      split
      · rename_i h
        rw [idxI_some hx h ho]
      · rename_i h
        refine ⟨k + 1, ⟨hlt, fun j y hj hy => ?_⟩, by omega, rfl⟩
        rcases Nat.lt_or_ge j k with h5 | h5
        · exact ho j y h5 hy
        · obtain rfl : j = k := by omega
          rw [hx] at hy; cases hy
          simpa using h
    · obtain rfl : k = l.length := by omega
      simp only [push_cast, Nat.reduceAdd, Nat.reduceSub, Nat.reduceMul, Nat.reduceLT, Nat.reduceLeDiff, Nat.reduceEqDiff, Nat.reduceMod, Nat.reduceDiv, Int.reduceAdd, Int.reduceSub, Int.reduceMul, Int.reduceLT, Int.reduceLE, Int.reduceEq, Int.reduceNeg, Int.reduceToNat, reduceIte, reduceCtorEq, Nat.lt_irrefl, idxI_none (fun j y hj => ho j y (List.getElem?_eq_some_iff.1 hj).1 hj)]
theorem right1_ok (x : Sl) : CallsV Try.prog 27 [x.v] [] (Ret0 (.bool (decide (x.val = W.zero)))) := by
  refine callsO (noG_ok _) Try.mix Try.pl27 Try.func27 rfl Try.ntmps27 Try.results27 rfl (by first | rfl | assumption) (Nat.le_of_ble_eq_true rfl) (by kernel_rfl) ?_
  simp only [push_cast, Nat.reduceAdd, Nat.reduceSub, Nat.reduceMul, Nat.reduceLT, Nat.reduceLeDiff, Nat.reduceEqDiff, Nat.reduceMod, Nat.reduceDiv, Int.reduceAdd, Int.reduceSub, Int.reduceMul, Int.reduceLT, Int.reduceLE, Int.reduceEq, Int.reduceNeg, Int.reduceToNat, reduceIte, reduceCtorEq]
theorem containsFunc_ok {H : Hp} {l : List Sl} {q : Option Addr} {c : Nat} {g : FuncId} {caps : List Value} {f : Sl → Bool} (hm : marksOf H = []) (hd : derE H H) (hn : l.length ≤ 4000)
    (hv : l = [] ∨ ∃ b o, q = some ⟨b, o, none⟩ ∧ findE H b = some ⟨b, o, .ro, slC l⟩) (hf : ∀ x ∈ l, CallsV Try.prog g (x.v :: caps) H (Ret0 (.bool (f x)))) :
    CallsV Try.prog 26 [.slice q l.length c, .func (.func g) #[] caps.toArray] H (Ret0 (.bool (l.any f))) := by
  refine callsO (noG_ok _) Try.mix Try.pl26 Try.func26 rfl Try.ntmps26 Try.results26 rfl (by first | rfl | assumption) (Nat.le_of_ble_eq_true rfl) (by kernel_rfl) ?_
  simp only [push_cast, Nat.reduceAdd, Nat.reduceSub, Nat.reduceMul, Nat.reduceLT, Nat.reduceLeDiff, Nat.reduceEqDiff, Nat.reduceMod, Nat.reduceDiv, Int.reduceAdd, Int.reduceSub, Int.reduceMul, Int.reduceLT, Int.reduceLE, Int.reduceEq, Int.reduceNeg, Int.reduceToNat, reduceIte, reduceCtorEq]
  refine (indexFunc_ok hm hd hn hv hf).pure hd ?_
  simp only [push_cast, Nat.reduceAdd, Nat.reduceSub, Nat.reduceMul, Nat.reduceLT, Nat.reduceLeDiff, Nat.reduceEqDiff, Nat.reduceMod, Nat.reduceDiv, Int.reduceAdd, Int.reduceSub, Int.reduceMul, Int.reduceLT, Int.reduceLE, Int.reduceEq, Int.reduceNeg, Int.reduceToNat, reduceIte, reduceCtorEq, idxI_any]
theorem right_ok {Hf : Hp} {l : List Sl} {v : Value} (hv : SlH l v Hf) : CallsV Try.prog 11 [v] Hf (Ret0 (.bool (rightB l))) := by
  have hm := hv.marks
  obtain ⟨q, c, rfl⟩ := hv.slice
  refine callsO (noG_ok _) Try.mix Try.pl11 Try.func11 rfl Try.ntmps11 Try.results11 rfl (by first | rfl | assumption) (Nat.le_of_ble_eq_true rfl) (by kernel_rfl) ?_
  simp only [push_cast, Nat.reduceAdd, Nat.reduceSub, Nat.reduceMul, Nat.reduceLT, Nat.reduceLeDiff, Nat.reduceEqDiff, Nat.reduceMod, Nat.reduceDiv, Int.reduceAdd, Int.reduceSub, Int.reduceMul, Int.reduceLT, Int.reduceLE, Int.reduceEq, Int.reduceNeg, Int.reduceToNat, reduceIte, reduceCtorEq]
  refine (patch_ok hv).pure hv.der ?_
  simp only [push_cast, Nat.reduceAdd, Nat.reduceSub, Nat.reduceMul, Nat.reduceLT, Nat.reduceLeDiff, Nat.reduceEqDiff, Nat.reduceMod, Nat.reduceDiv, Int.reduceAdd, Int.reduceSub, Int.reduceMul, Int.reduceLT, Int.reduceLE, Int.reduceEq, Int.reduceNeg, Int.reduceToNat, reduceIte, reduceCtorEq]
  cases hp : patchB l with
  | false => simp only [push_cast, Nat.reduceAdd, Nat.reduceSub, Nat.reduceMul, Nat.reduceLT, Nat.reduceLeDiff, Nat.reduceEqDiff, Nat.reduceMod, Nat.reduceDiv, Int.reduceAdd, Int.reduceSub, Int.reduceMul, Int.reduceLT, Int.reduceLE, Int.reduceEq, Int.reduceNeg, Int.reduceToNat, reduceIte, reduceCtorEq, rightB, hp]
  | true =>
    simp only [push_cast, Nat.reduceAdd, Nat.reduceSub, Nat.reduceMul, Nat.reduceLT, Nat.reduceLeDiff, Nat.reduceEqDiff, Nat.reduceMod, Nat.reduceDiv, Int.reduceAdd, Int.reduceSub, Int.reduceMul, Int.reduceLT, Int.reduceLE, Int.reduceEq, Int.reduceNeg, Int.reduceToNat, reduceIte, reduceCtorEq]
    have hl : l.length ≤ 1000 := by unfold patchB at hp; simp at hp; exact hp.1
    refine (containsFunc_ok (f := fun x => decide (x.val = W.zero)) hm hv.der (by omega) hv.find.2 fun x _ => (right1_ok x).ret0 trivial hm).pure hv.der ?_
    simp only [push_cast, Nat.reduceAdd, Nat.reduceSub, Nat.reduceMul, Nat.reduceLT, Nat.reduceLeDiff, Nat.reduceEqDiff, Nat.reduceMod, Nat.reduceDiv, Int.reduceAdd, Int.reduceSub, Int.reduceMul, Int.reduceLT, Int.reduceLE, Int.reduceEq, Int.reduceNeg, Int.reduceToNat, reduceIte, reduceCtorEq, rightB, hp]
theorem limited_ok (p : Option Addr) (n c : Nat) : CallsV Try.prog 33 [.slice p n c] [] (Ret0 (.tuple (if 1000 < n then #[.slice none 0 0, .int .i64 2] else #[.slice p n c, .int .i64 0]))) := by
  refine callsO (noG_ok _) Try.mix Try.pl33 Try.func33 rfl Try.ntmps33 Try.results33 rfl (by first | rfl | assumption) (Nat.le_of_ble_eq_true rfl) (by kernel_rfl) ?_
  simp only [push_cast, Nat.reduceAdd, Nat.reduceSub, Nat.reduceMul, Nat.reduceLT, Nat.reduceLeDiff, Nat.reduceEqDiff, Nat.reduceMod, Nat.reduceDiv, Int.reduceAdd, Int.reduceSub, Int.reduceMul, Int.reduceLT, Int.reduceLE, Int.reduceEq, Int.reduceNeg, Int.reduceToNat, reduceIte, reduceCtorEq]
  rcases Nat.lt_or_ge 1000 n with h | h
  · have e1 : (1000 : Int) < (n : Int) := by omega
    simp only [push_cast, Nat.reduceAdd, Nat.reduceSub, Nat.reduceMul, Nat.reduceLT, Nat.reduceLeDiff, Nat.reduceEqDiff, Nat.reduceMod, Nat.reduceDiv, Int.reduceAdd, Int.reduceSub, Int.reduceMul, Int.reduceLT, Int.reduceLE, Int.reduceEq, Int.reduceNeg, Int.reduceToNat, reduceIte, reduceCtorEq, e1, h, if_pos]
  · have e1 : ¬ (1000 : Int) < (n : Int) := by omega
    simp only [push_cast, Nat.reduceAdd, Nat.reduceSub, Nat.reduceMul, Nat.reduceLT, Nat.reduceLeDiff, Nat.reduceEqDiff, Nat.reduceMod, Nat.reduceDiv, Int.reduceAdd, Int.reduceSub, Int.reduceMul, Int.reduceLT, Int.reduceLE, Int.reduceEq, Int.reduceNeg, Int.reduceToNat, reduceIte, reduceCtorEq, e1, Nat.not_lt.2 h]
theorem get1_ok (x : Sl) (k : W) (b : Nat) : CallsV Try.prog 31 [x.v, .pointer (some ⟨b, 0, none⟩)] [⟨b, 0, .ro, k.cells⟩] (Ret0 (.bool (decide (x.key = k)))) := by
  refine callsO (noG_ok _) Try.mix Try.pl31 Try.func31 rfl Try.ntmps31 Try.results31 rfl (by first | rfl | assumption) (Nat.le_of_ble_eq_true rfl) (by kernel_rfl) ?_
  simp only [push_cast, Nat.reduceAdd, Nat.reduceSub, Nat.reduceMul, Nat.reduceLT, Nat.reduceLeDiff, Nat.reduceEqDiff, Nat.reduceMod, Nat.reduceDiv, Int.reduceAdd, Int.reduceSub, Int.reduceMul, Int.reduceLT, Int.reduceLE, Int.reduceEq, Int.reduceNeg, Int.reduceToNat, reduceIte, reduceCtorEq]
  intro b1 hb1
  simp only [push_cast, Nat.reduceAdd, Nat.reduceSub, Nat.reduceMul, Nat.reduceLT, Nat.reduceLeDiff, Nat.reduceEqDiff, Nat.reduceMod, Nat.reduceDiv, Int.reduceAdd, Int.reduceSub, Int.reduceMul, Int.reduceLT, Int.reduceLE, Int.reduceEq, Int.reduceNeg, Int.reduceToNat, reduceIte, reduceCtorEq, hb1]
theorem get_ok {Hf : Hp} {l : List Sl} {v : Value} {k : W} (hv : SlH l v Hf) (hn : l.length ≤ 4000) : CallsV Try.prog 15 [v, k.v] Hf (Ret0 (getW l k).v) := by
  obtain ⟨q, c, rfl, ⟨rfl, rfl⟩ | ⟨b, o, rfl, rfl⟩⟩ := hv
  · refine callsO (noG_ok _) Try.mix Try.pl15 Try.func15 rfl Try.ntmps15 Try.results15 rfl (by first | rfl | assumption) (Nat.le_of_ble_eq_true rfl) (by kernel_rfl) ?_
    simp only [push_cast, Nat.reduceAdd, Nat.reduceSub, Nat.reduceMul, Nat.reduceLT, Nat.reduceLeDiff, Nat.reduceEqDiff, Nat.reduceMod, Nat.reduceDiv, Int.reduceAdd, Int.reduceSub, Int.reduceMul, Int.reduceLT, Int.reduceLE, Int.reduceEq, Int.reduceNeg, Int.reduceToNat, reduceIte, reduceCtorEq]
    intro b1 b2 hb2
    refine (indexFunc_ok (H := [⟨b1, 0, .ro, k.cells⟩]) (l := []) (q := q) (c := c) (caps := [.pointer (some ⟨b1, 0, none⟩)]) (f := fun x => decide (x.key = k)) rfl ?_ hn (.inl rfl) (fun x h => by cases h)).pure ?_ ?_
    · exact ⟨⟨rfl, by simp only [push_cast, Nat.reduceAdd, Nat.reduceSub, Nat.reduceMul, Nat.reduceLT, Nat.reduceLeDiff, Nat.reduceEqDiff, Nat.reduceMod, Nat.reduceDiv, Int.reduceAdd, Int.reduceSub, Int.reduceMul, Int.reduceLT, Int.reduceLE, Int.reduceEq, Int.reduceNeg, Int.reduceToNat, reduceIte, reduceCtorEq]⟩, trivial⟩
    · simp only [push_cast, Nat.reduceAdd, Nat.reduceSub, Nat.reduceMul, Nat.reduceLT, Nat.reduceLeDiff, Nat.reduceEqDiff, Nat.reduceMod, Nat.reduceDiv, Int.reduceAdd, Int.reduceSub, Int.reduceMul, Int.reduceLT, Int.reduceLE, Int.reduceEq, Int.reduceNeg, Int.reduceToNat, reduceIte, reduceCtorEq, hb2]
    have h0 : idxI (fun x => decide (x.key = k)) [] = -1 := rfl
    have h1 : getW [] k = W.zero := rfl
    simp only [push_cast, Nat.reduceAdd, Nat.reduceSub, Nat.reduceMul, Nat.reduceLT, Nat.reduceLeDiff, Nat.reduceEqDiff, Nat.reduceMod, Nat.reduceDiv, Int.reduceAdd, Int.reduceSub, Int.reduceMul, Int.reduceLT, Int.reduceLE, Int.reduceEq, Int.reduceNeg, Int.reduceToNat, reduceIte, reduceCtorEq, h0, h1, hb2]
  · refine callsO (noG_ok _) Try.mix Try.pl15 Try.func15 rfl Try.ntmps15 Try.results15 rfl (by first | rfl | assumption) (Nat.le_of_ble_eq_true rfl) (by kernel_rfl) ?_
    simp only [push_cast, Nat.reduceAdd, Nat.reduceSub, Nat.reduceMul, Nat.reduceLT, Nat.reduceLeDiff, Nat.reduceEqDiff, Nat.reduceMod, Nat.reduceDiv, Int.reduceAdd, Int.reduceSub, Int.reduceMul, Int.reduceLT, Int.reduceLE, Int.reduceEq, Int.reduceNeg, Int.reduceToNat, reduceIte, reduceCtorEq]
    intro b1 hb1 b2 hb2
    refine (indexFunc_ok (H := [⟨b1, 0, .ro, k.cells⟩, ⟨b, o, .ro, slC l⟩]) (l := l) (q := some ⟨b, o, none⟩) (c := c) (caps := [.pointer (some ⟨b1, 0, none⟩)]) (f := fun x => decide (x.key = k)) rfl ?_ hn (.inr ⟨b, o, rfl, ?_⟩) (fun x h => ?_)).pure ?_ ?_
    · simp only [push_cast, Nat.reduceAdd, Nat.reduceSub, Nat.reduceMul, Nat.reduceLT, Nat.reduceLeDiff, Nat.reduceEqDiff, Nat.reduceMod, Nat.reduceDiv, Int.reduceAdd, Int.reduceSub, Int.reduceMul, Int.reduceLT, Int.reduceLE, Int.reduceEq, Int.reduceNeg, Int.reduceToNat, reduceIte, reduceCtorEq, hb1, slC_len, slC_take]
    · simp only [push_cast, Nat.reduceAdd, Nat.reduceSub, Nat.reduceMul, Nat.reduceLT, Nat.reduceLeDiff, Nat.reduceEqDiff, Nat.reduceMod, Nat.reduceDiv, Int.reduceAdd, Int.reduceSub, Int.reduceMul, Int.reduceLT, Int.reduceLE, Int.reduceEq, Int.reduceNeg, Int.reduceToNat, reduceIte, reduceCtorEq, hb1]
    · exact (get1_ok x k b1).ret0 (by simp only [push_cast, Nat.reduceAdd, Nat.reduceSub, Nat.reduceMul, Nat.reduceLT, Nat.reduceLeDiff, Nat.reduceEqDiff, Nat.reduceMod, Nat.reduceDiv, Int.reduceAdd, Int.reduceSub, Int.reduceMul, Int.reduceLT, Int.reduceLE, Int.reduceEq, Int.reduceNeg, Int.reduceToNat, reduceIte, reduceCtorEq]) rfl
    · simp only [push_cast, Nat.reduceAdd, Nat.reduceSub, Nat.reduceMul, Nat.reduceLT, Nat.reduceLeDiff, Nat.reduceEqDiff, Nat.reduceMod, Nat.reduceDiv, Int.reduceAdd, Int.reduceSub, Int.reduceMul, Int.reduceLT, Int.reduceLE, Int.reduceEq, Int.reduceNeg, Int.reduceToNat, reduceIte, reduceCtorEq, hb2, hb1, slC_len, slC_take]
    rcases idxI_find (fun x => decide (x.key = k)) l with ⟨h0, h1⟩ | ⟨i, x, h0, h1, h2⟩
    · have h3 : getW l k = W.zero := by unfold getW; rw [h1]; rfl
      simp only [push_cast, Nat.reduceAdd, Nat.reduceSub, Nat.reduceMul, Nat.reduceLT, Nat.reduceLeDiff, Nat.reduceEqDiff, Nat.reduceMod, Nat.reduceDiv, Int.reduceAdd, Int.reduceSub, Int.reduceMul, Int.reduceLT, Int.reduceLE, Int.reduceEq, Int.reduceNeg, Int.reduceToNat, reduceIte, reduceCtorEq, h0, h3, hb2]
    · have h3 : getW l k = x.val := by unfold getW; rw [h2]; rfl
      have hi := (List.getElem?_eq_some_iff.1 h1).1
      have hat := slC_at h1
      have e1 : ¬ (i : Int) < 0 := by omega
      simp only [push_cast, Nat.reduceAdd, Nat.reduceSub, Nat.reduceMul, Nat.reduceLT, Nat.reduceLeDiff, Nat.reduceEqDiff, Nat.reduceMod, Nat.reduceDiv, Int.reduceAdd, Int.reduceSub, Int.reduceMul, Int.reduceLT, Int.reduceLE, Int.reduceEq, Int.reduceNeg, Int.reduceToNat, reduceIte, reduceCtorEq, h0, h3, hb2, hb1, e1, hi, hat]
end Go.Proofs.Ytfjenfjfiinjmaa
