/- Ta: slots as values. -/
import Derived.Test.YtfjenfjfiinjmaaWb
set_option linter.unusedSimpArgs false
set_option linter.unusedVariables false
namespace Go.Ev
structure Sl where
  key : W
  val : W
def Sl.cells (x : Sl) : List Value := x.key.cells ++ x.val.cells
def Sl.v (x : Sl) : Value := .agg x.cells.toArray
theorem Sl.len (x : Sl) : x.cells.length = 8 := rfl
theorem Sl.take8 (x : Sl) : List.take 8 x.cells = x.cells := rfl
theorem Sl.key0 (x : Sl) : List.take 4 x.cells = x.key.cells := rfl
theorem Sl.val4 (x : Sl) : List.take 4 (List.drop 4 x.cells) = x.val.cells := rfl
theorem Sl.all1 (x : Sl) : x.cells.all oneC = true := rfl
theorem Sl.eta (x : Sl) : x.key.cells ++ x.val.cells = x.cells := rfl
theorem Sl.drop8 (x : Sl) (l : List Value) : List.drop 8 (x.cells ++ l) = l := rfl
theorem Sl.drop8' (x : Sl) : List.drop 8 x.cells = [] := rfl
theorem Sl.agg (x : Sl) : Value.agg x.cells.toArray = x.v := rfl
theorem Sl.v_cells (x : Sl) : x.v.cells = x.cells.toArray := rfl
theorem Sl.pair (k v : W) : k.cells ++ v.cells = (Sl.mk k v).cells := rfl
instance : DecidableEq Sl := fun x y => if h : x.key = y.key ∧ x.val = y.val then .isTrue (by cases x; cases y; cases h.1; cases h.2; rfl) else .isFalse fun e => h (by rw [e]; exact ⟨rfl, rfl⟩)
def slC (l : List Sl) : List Value := l.flatMap Sl.cells
theorem slC_len (l : List Sl) : (slC l).length = l.length * 8 := by
  unfold slC
  induction l with
  | nil => rfl
  | cons x r ih => simp only [List.flatMap_cons, List.length_append, ih, Sl.len, List.length_cons]; omega
theorem slC_drop (l : List Sl) (i : Nat) : (slC l).drop (i * 8) = slC (l.drop i) := by
  induction l generalizing i with
  | nil => simp [slC]
  | cons x r ih =>
    cases i with
    | zero => simp
    | succ i =>
      have h8 : x.cells.length = 8 := rfl
      rw [show slC (x :: r) = x.cells ++ slC r from rfl, show (i + 1) * 8 = x.cells.length + i * 8 by rw [h8]; omega, List.drop_append, List.drop_succ_cons]
      simp only [Nat.add_sub_cancel_left, ih]
      rw [List.drop_eq_nil_of_le (by omega), List.nil_append]
theorem slC_app (l m : List Sl) : slC (l ++ m) = slC l ++ slC m := by simp [slC]
theorem slC_one (x : Sl) : slC [x] = x.cells := by simp [slC]
/-- what is read at the place i -/
theorem slC_at {l : List Sl} {i : Nat} {x : Sl} (h : l[i]? = some x) : i * 8 + 8 ≤ (slC l).length ∧ i * 8 + 4 ≤ (slC l).length ∧ i * 8 + 4 + 4 ≤ (slC l).length ∧
    List.take 8 (List.drop (i * 8) (slC l)) = x.cells ∧ List.take 4 (List.drop (i * 8) (slC l)) = x.key.cells ∧ List.take 4 (List.drop (i * 8 + 4) (slC l)) = x.val.cells := by
  have hi := (List.getElem?_eq_some_iff.1 h).1
  have hd : l.drop i = x :: l.drop (i + 1) := by
    rw [List.drop_eq_getElem_cons hi, (List.getElem?_eq_some_iff.1 h).2]
  rw [slC_len, ← List.drop_drop, slC_drop, hd]
  refine ⟨by omega, by omega, by omega, ?_, ?_, ?_⟩ <;> rfl
/-- v is a slice of the slots l, which lie in Hf -/
def SlH (l : List Sl) (v : Value) (Hf : Hp) : Prop := ∃ p c, v = .slice p l.length c ∧ ((l = [] ∧ Hf = []) ∨ ∃ b o, p = some ⟨b, o, none⟩ ∧ Hf = [⟨b, o, .ro, slC l⟩])
/-- v is a slice of the slots l, as can be read in H -/
def SlR (H : Hp) (l : List Sl) (v : Value) : Prop := ∃ p c, v = .slice p l.length c ∧ (l = [] ∨ ∃ b o, p = some ⟨b, o, none⟩ ∧ cellsAt H b o (l.length * 8) = some (slC l))
theorem SlR.h {H : Hp} {l : List Sl} {v : Value} (h : SlR H l v) : ∃ Hf, SlH l v Hf ∧ derE H Hf := by
  obtain ⟨p, c, rfl, rfl | ⟨b, o, rfl, hb⟩⟩ := h
  · exact ⟨[], ⟨p, c, rfl, .inl ⟨rfl, rfl⟩⟩, trivial⟩
  · refine ⟨[⟨b, o, .ro, slC l⟩], ⟨_, c, rfl, .inr ⟨b, o, rfl, rfl⟩⟩, ⟨rfl, ?_⟩, trivial⟩
    simpa only [slC_len] using hb
/-- v is a slice of slots that nobody else has -/
def OutS (e : Nat) (l : List Sl) (v : Value) (N : Hp) : Prop := (l = [] ∧ v = .slice none 0 0 ∧ N = []) ∨ ∃ b c, l ≠ [] ∧ v = .slice (some ⟨b, 0, none⟩) l.length c ∧ l.length ≤ c ∧ N = [⟨b, 0, .vec e 8 c, slC l⟩]
theorem subH_self : ∀ (H : Hp), subH H H
  | [] => trivial
  | e :: r => ⟨by simp [findE], by simpa [remE] using subH_self r⟩
theorem fresh_find {b : Nat} : ∀ {H : Hp}, fresh b H → ∀ {c : Nat} {e : Ent}, findE H c = some e → ¬ b = c ∧ ¬ c = b
  | [], _, _, _, h => by simp [findE] at h
  | x :: r, hf, c, e, h => by
    simp only [findE] at h
    by_cases hc : c = x.blk
    · subst hc; exact ⟨hf.1, hf.2.1⟩
    · rw [if_neg hc] at h; exact fresh_find hf.2.2 h
theorem fresh_rem {b : Nat} : ∀ {H : Hp}, fresh b H → remE H b = H
  | [], _ => rfl
  | x :: r, hf => by simp only [remE]; rw [if_neg hf.1, fresh_rem hf.2.2]
theorem findE_fresh {b : Nat} : ∀ {H : Hp}, fresh b H → ∀ e ∈ H, ¬ e.blk = b
  | _ :: _, hf, e, he => by
    rcases List.mem_cons.1 he with rfl | he
    · exact hf.2.1
    · exact findE_fresh hf.2.2 e he
theorem subH_skip {e : Ent} : ∀ {L H : Hp}, fresh e.blk H → (subH (e :: L) H) = (subH L H)
  | _, [], _ => rfl
  | L, f :: r, h => by
    simp only [subH, findE, remE]
    rw [if_neg h.2.1, if_neg h.2.1, subH_skip h.2.2]
attribute [push_cast] slC_one Sl.eta Sl.all1 Sl.drop8 Sl.drop8' Sl.len Sl.take8 Sl.key0 Sl.val4 Sl.agg Sl.v_cells subH_self subH_skip
end Go.Ev
namespace Go.Proofs.Ytfjenfjfiinjmaa
open Go Go.Ev Go.Proofs
set_option maxRecDepth 100000
set_option maxHeartbeats 4000000
theorem of_ok {Hf : Hp} {l : List Sl} {v : Value} (hv : SlH l v Hf) (hn : l.length ≤ 4000) :
    CallsV Try.prog 28 [v] Hf (fun u N => ∃ w, u = .agg #[w, .func (.func 35) #[] #[]] ∧ OutS 63 l w N) := by
  obtain ⟨p, c, rfl, ⟨rfl, rfl⟩ | ⟨b, o, rfl, rfl⟩⟩ := hv
  · refine callsO (noG_ok _) Try.mix Try.pl28 Try.func28 rfl Try.ntmps28 Try.results28 rfl (by first | rfl | assumption) (Nat.le_of_ble_eq_true rfl) (by kernel_rfl) ?_
    simp only [push_cast, Nat.reduceAdd, Nat.reduceSub, Nat.reduceMul, Nat.reduceLT, Nat.reduceLeDiff, Nat.reduceEqDiff, Nat.reduceMod, Nat.reduceDiv, Int.reduceAdd, Int.reduceSub, Int.reduceMul, Int.reduceLT, Int.reduceLE, Int.reduceEq, Int.reduceNeg, Int.reduceToNat, reduceIte, reduceCtorEq]
    intro b2 b3 hb3
    refine unrollO (noG_ok _) (pl := Try.pl28) Try.mix 1 (by kernel_rfl) ?_
    simp only [push_cast, Nat.reduceAdd, Nat.reduceSub, Nat.reduceMul, Nat.reduceLT, Nat.reduceLeDiff, Nat.reduceEqDiff, Nat.reduceMod, Nat.reduceDiv, Int.reduceAdd, Int.reduceSub, Int.reduceMul, Int.reduceLT, Int.reduceLE, Int.reduceEq, Int.reduceNeg, Int.reduceToNat, reduceIte, reduceCtorEq, hb3]
    exact ⟨[], List.nil_sublist _, _, rfl, .inl ⟨rfl, rfl, rfl⟩⟩
  refine callsO (noG_ok _) Try.mix Try.pl28 Try.func28 rfl Try.ntmps28 Try.results28 rfl (by first | rfl | assumption) (Nat.le_of_ble_eq_true rfl) (by kernel_rfl) ?_
  simp only [push_cast, Nat.reduceAdd, Nat.reduceSub, Nat.reduceMul, Nat.reduceLT, Nat.reduceLeDiff, Nat.reduceEqDiff, Nat.reduceMod, Nat.reduceDiv, Int.reduceAdd, Int.reduceSub, Int.reduceMul, Int.reduceLT, Int.reduceLE, Int.reduceEq, Int.reduceNeg, Int.reduceToNat, reduceIte, reduceCtorEq]
  intro b2 hb2 b3 hb3
  refine loopO (noG_ok _) (pl := Try.pl28) Try.mix (X := Nat × Value × Hp)
    (fun x => ([(2, .pointer (some ⟨b2, 0, none⟩)), (3, .pointer (some ⟨b3, 0, none⟩)), (7, .slice (some ⟨b, o, none⟩) l.length c), (8, .int .i64 l.length), (9, .int .i64 x.1)],
      ⟨b2, 0, .cel 52, [.slice none 0 0, .nilFunc]⟩ :: ⟨b3, 0, .cel 52, [x.2.1, .func (.func 35) #[] #[]]⟩ :: ⟨b, o, .ro, slC l⟩ :: x.2.2))
    (fun x => x.1 ≤ l.length ∧ OutS 63 (l.take x.1) x.2.1 x.2.2 ∧ freshN x.2.2 [⟨b2, 0, .ro, []⟩, ⟨b3, 0, .ro, []⟩, ⟨b, 0, .ro, []⟩]) (fun x => l.length - x.1) (0, .slice none 0 0, []) ?_ ?_ (by kernel_rfl) ?_
  · exact ⟨Nat.zero_le _, .inl ⟨rfl, rfl, rfl⟩, trivial⟩
  · simp only [push_cast, Nat.reduceAdd, Nat.reduceSub, Nat.reduceMul, Nat.reduceLT, Nat.reduceLeDiff, Nat.reduceEqDiff, Nat.reduceMod, Nat.reduceDiv, Int.reduceAdd, Int.reduceSub, Int.reduceMul, Int.reduceLT, Int.reduceLE, Int.reduceEq, Int.reduceNeg, Int.reduceToNat, reduceIte, reduceCtorEq, *]
  · rintro ⟨k, w, N⟩ ⟨hk, ho, hf⟩
    dsimp only at hk ho hf ⊢
    rcases Nat.lt_or_ge k l.length with hlt | hge
    · obtain ⟨x, hx⟩ : ∃ x, l[k]? = some x := ⟨l[k], List.getElem?_eq_getElem hlt⟩
      have htk : l.take (k + 1) = l.take k ++ [x] := by rw [List.take_add_one, hx]; rfl
      have hat := slC_at hx
      have hkl : (l.take k).length = k := by simp; omega
      rcases ho with ⟨h0, rfl, rfl⟩ | ⟨bo, co, h0, rfl, hco, rfl⟩
      · simp only [push_cast, Nat.reduceAdd, Nat.reduceSub, Nat.reduceMul, Nat.reduceLT, Nat.reduceLeDiff, Nat.reduceEqDiff, Nat.reduceMod, Nat.reduceDiv, Int.reduceAdd, Int.reduceSub, Int.reduceMul, Int.reduceLT, Int.reduceLE, Int.reduceEq, Int.reduceNeg, Int.reduceToNat, reduceIte, reduceCtorEq, hlt, hat, hb2, hb3]
        intro b4 hb4
        simp only [push_cast, Nat.reduceAdd, Nat.reduceSub, Nat.reduceMul, Nat.reduceLT, Nat.reduceLeDiff, Nat.reduceEqDiff, Nat.reduceMod, Nat.reduceDiv, Int.reduceAdd, Int.reduceSub, Int.reduceMul, Int.reduceLT, Int.reduceLE, Int.reduceEq, Int.reduceNeg, Int.reduceToNat, reduceIte, reduceCtorEq, hlt, hat, hb2, hb3, hb4]
        intro b5 hb5
        refine ⟨by unfold two47; omega, fun b6 c6 hb6 hc6 => ?_⟩
        simp only [push_cast, Nat.reduceAdd, Nat.reduceSub, Nat.reduceMul, Nat.reduceLT, Nat.reduceLeDiff, Nat.reduceEqDiff, Nat.reduceMod, Nat.reduceDiv, Int.reduceAdd, Int.reduceSub, Int.reduceMul, Int.reduceLT, Int.reduceLE, Int.reduceEq, Int.reduceNeg, Int.reduceToNat, reduceIte, reduceCtorEq, hb2, hb3, hb4, hb5, hb6, wrap_i64' (show -9223372036854775808 ≤ (k : Int) + 1 ∧ (k : Int) + 1 ≤ 9223372036854775807 by omega)]
        have h1 : (l.take (k + 1)) = [x] := by rw [htk, h0]; rfl
        refine ⟨(k + 1, .slice (some ⟨b6, 0, none⟩) 1 c6, [⟨b6, 0, .vec 63 8 c6, slC [x]⟩]), ⟨hlt, ?_, ?_⟩, ?_, ?_⟩
        · rw [h1]; exact .inr ⟨b6, c6, by simp, rfl, hc6, rfl⟩
        · simp only [push_cast, Nat.reduceAdd, Nat.reduceSub, Nat.reduceMul, Nat.reduceLT, Nat.reduceLeDiff, Nat.reduceEqDiff, Nat.reduceMod, Nat.reduceDiv, Int.reduceAdd, Int.reduceSub, Int.reduceMul, Int.reduceLT, Int.reduceLE, Int.reduceEq, Int.reduceNeg, Int.reduceToNat, reduceIte, reduceCtorEq, hb6]
        · show l.length - (k + 1) < l.length - k
          omega
        · simp only [push_cast, Nat.reduceAdd, Nat.reduceSub, Nat.reduceMul, Nat.reduceLT, Nat.reduceLeDiff, Nat.reduceEqDiff, Nat.reduceMod, Nat.reduceDiv, Int.reduceAdd, Int.reduceSub, Int.reduceMul, Int.reduceLT, Int.reduceLE, Int.reduceEq, Int.reduceNeg, Int.reduceToNat, reduceIte, reduceCtorEq, hb6, hb5, hb4, hb3, hb2]
      · simp only [push_cast, Nat.reduceAdd, Nat.reduceSub, Nat.reduceMul, Nat.reduceLT, Nat.reduceLeDiff, Nat.reduceEqDiff, Nat.reduceMod, Nat.reduceDiv, Int.reduceAdd, Int.reduceSub, Int.reduceMul, Int.reduceLT, Int.reduceLE, Int.reduceEq, Int.reduceNeg, Int.reduceToNat, reduceIte, reduceCtorEq] at hf
        simp only [push_cast, Nat.reduceAdd, Nat.reduceSub, Nat.reduceMul, Nat.reduceLT, Nat.reduceLeDiff, Nat.reduceEqDiff, Nat.reduceMod, Nat.reduceDiv, Int.reduceAdd, Int.reduceSub, Int.reduceMul, Int.reduceLT, Int.reduceLE, Int.reduceEq, Int.reduceNeg, Int.reduceToNat, reduceIte, reduceCtorEq, hlt, hat, hb2, hb3, hf]
        intro b4 hb4
        simp only [push_cast, Nat.reduceAdd, Nat.reduceSub, Nat.reduceMul, Nat.reduceLT, Nat.reduceLeDiff, Nat.reduceEqDiff, Nat.reduceMod, Nat.reduceDiv, Int.reduceAdd, Int.reduceSub, Int.reduceMul, Int.reduceLT, Int.reduceLE, Int.reduceEq, Int.reduceNeg, Int.reduceToNat, reduceIte, reduceCtorEq, hlt, hat, hb2, hb3, hb4, hf]
        intro b5 hb5
        simp only [push_cast, Nat.reduceAdd, Nat.reduceSub, Nat.reduceMul, Nat.reduceLT, Nat.reduceLeDiff, Nat.reduceEqDiff, Nat.reduceMod, Nat.reduceDiv, Int.reduceAdd, Int.reduceSub, Int.reduceMul, Int.reduceLT, Int.reduceLE, Int.reduceEq, Int.reduceNeg, Int.reduceToNat, reduceIte, reduceCtorEq, hb2, hb3, hb4, hb5, hf, hkl, slC_len]
        refine ⟨by unfold two47; omega, fun b6 c6 hb6 hc6 => ?_⟩
        simp only [push_cast, Nat.reduceAdd, Nat.reduceSub, Nat.reduceMul, Nat.reduceLT, Nat.reduceLeDiff, Nat.reduceEqDiff, Nat.reduceMod, Nat.reduceDiv, Int.reduceAdd, Int.reduceSub, Int.reduceMul, Int.reduceLT, Int.reduceLE, Int.reduceEq, Int.reduceNeg, Int.reduceToNat, reduceIte, reduceCtorEq, hb2, hb3, hb4, hb5, hb6, hf, wrap_i64' (show -9223372036854775808 ≤ (k : Int) + 1 ∧ (k : Int) + 1 ≤ 9223372036854775807 by omega)]
        refine ⟨(k + 1, .slice (some ⟨b6, 0, none⟩) (k + 1) c6, [⟨b6, 0, .vec 63 8 c6, slC (l.take (k + 1))⟩]), ⟨hlt, ?_, ?_⟩, ?_, ?_⟩
        · refine .inr ⟨b6, c6, by rw [htk]; simp, by simp; omega, by simp; omega, rfl⟩
        · simp only [push_cast, Nat.reduceAdd, Nat.reduceSub, Nat.reduceMul, Nat.reduceLT, Nat.reduceLeDiff, Nat.reduceEqDiff, Nat.reduceMod, Nat.reduceDiv, Int.reduceAdd, Int.reduceSub, Int.reduceMul, Int.reduceLT, Int.reduceLE, Int.reduceEq, Int.reduceNeg, Int.reduceToNat, reduceIte, reduceCtorEq, hb6]
        · show l.length - (k + 1) < l.length - k
          omega
        · simp only [push_cast, Nat.reduceAdd, Nat.reduceSub, Nat.reduceMul, Nat.reduceLT, Nat.reduceLeDiff, Nat.reduceEqDiff, Nat.reduceMod, Nat.reduceDiv, Int.reduceAdd, Int.reduceSub, Int.reduceMul, Int.reduceLT, Int.reduceLE, Int.reduceEq, Int.reduceNeg, Int.reduceToNat, reduceIte, reduceCtorEq, htk, slC_app, hb6, hb5, hb4, hb3, hb2]
    · obtain rfl : k = l.length := by omega
      simp only [push_cast, Nat.reduceAdd, Nat.reduceSub, Nat.reduceMul, Nat.reduceLT, Nat.reduceLeDiff, Nat.reduceEqDiff, Nat.reduceMod, Nat.reduceDiv, Int.reduceAdd, Int.reduceSub, Int.reduceMul, Int.reduceLT, Int.reduceLE, Int.reduceEq, Int.reduceNeg, Int.reduceToNat, reduceIte, reduceCtorEq, hb2, hb3, Nat.lt_irrefl]
      rw [List.take_length] at ho
      rcases ho with ⟨h0, rfl, rfl⟩ | ⟨bo, co, h0, rfl, hco, rfl⟩
      · simp only [push_cast, Nat.reduceAdd, Nat.reduceSub, Nat.reduceMul, Nat.reduceLT, Nat.reduceLeDiff, Nat.reduceEqDiff, Nat.reduceMod, Nat.reduceDiv, Int.reduceAdd, Int.reduceSub, Int.reduceMul, Int.reduceLT, Int.reduceLE, Int.reduceEq, Int.reduceNeg, Int.reduceToNat, reduceIte, reduceCtorEq, hb2, hb3]
        exact ⟨[], List.nil_sublist _, _, rfl, .inl ⟨h0, rfl, rfl⟩⟩
      · simp only [push_cast, Nat.reduceAdd, Nat.reduceSub, Nat.reduceMul, Nat.reduceLT, Nat.reduceLeDiff, Nat.reduceEqDiff, Nat.reduceMod, Nat.reduceDiv, Int.reduceAdd, Int.reduceSub, Int.reduceMul, Int.reduceLT, Int.reduceLE, Int.reduceEq, Int.reduceNeg, Int.reduceToNat, reduceIte, reduceCtorEq, hb2, hb3]
        exact ⟨[_], (((List.Sublist.refl _).cons _).cons _).cons _, _, rfl, .inr ⟨bo, co, h0, rfl, hco, rfl⟩⟩
end Go.Proofs.Ytfjenfjfiinjmaa
