/- Tf: pick, Slots, Same, as the laws use them. -/
import Derived.Test.YtfjenfjfiinjmaaTe
set_option linter.unusedSimpArgs false
set_option linter.unusedVariables false
namespace Go.Ev
def pickN (c n : Int) : Nat := ((if c < 0 then -(c + 1) else c) % n).toNat
theorem pickN_lt (c : Int) {n : Int} (h : 0 < n) : (pickN c n : Int) < n := by
  unfold pickN
  have := Int.emod_nonneg (if c < 0 then -(c + 1) else c) (by omega : n ≠ 0)
  have := Int.emod_lt_of_pos (if c < 0 then -(c + 1) else c) h
  omega
def i64In (c : Int) : Prop := -9223372036854775808 ≤ c ∧ c ≤ 9223372036854775807
instance (c : Int) : Decidable (i64In c) := inferInstanceAs (Decidable (_ ∧ _))
def pickG : List Value → Option Value
  | [.int .i64 c, .int .i64 n] => if i64In c ∧ 0 < n ∧ i64In n then some (.int .i64 (pickN c n)) else none
  | _ => none
attribute [push_cast] pickG
/-- pairs of numbers, one behind the other -/
def prC (l : List (Int × Int)) : List Value := l.flatMap fun x => [.int .i64 x.1, .int .i64 x.2]
theorem prC_len (l : List (Int × Int)) : (prC l).length = l.length * 2 := by
  unfold prC
  induction l with
  | nil => rfl
  | cons x r ih => simp only [List.flatMap_cons, List.length_append, ih, List.length_cons, List.length_nil]; omega
theorem prC_drop (l : List (Int × Int)) (i : Nat) : (prC l).drop (i * 2) = prC (l.drop i) := by
  induction l generalizing i with
  | nil => simp [prC]
  | cons x r ih =>
    cases i with
    | zero => simp
    | succ i =>
      rw [show prC (x :: r) = .int .i64 x.1 :: .int .i64 x.2 :: prC r from rfl, show (i + 1) * 2 = i * 2 + 1 + 1 by omega, List.drop_succ_cons, List.drop_succ_cons, ih, List.drop_succ_cons]
theorem prC_at {l : List (Int × Int)} {i : Nat} {x : Int × Int} (h : l[i]? = some x) : i * 2 + 1 ≤ (prC l).length ∧ i * 2 + 1 + 1 ≤ (prC l).length ∧
    List.take 1 (List.drop (i * 2) (prC l)) = [.int .i64 x.1] ∧ List.take 1 (List.drop (i * 2 + 1) (prC l)) = [.int .i64 x.2] := by
  have hi := (List.getElem?_eq_some_iff.1 h).1
  have hd : l.drop i = x :: l.drop (i + 1) := by
    rw [List.drop_eq_getElem_cons hi, (List.getElem?_eq_some_iff.1 h).2]
  rw [prC_len, ← List.drop_drop, prC_drop, hd]
  refine ⟨by omega, by omega, ?_, ?_⟩ <;> rfl
/-- v is a slice of these pairs, which lie in Hf -/
def PrH (l : List (Int × Int)) (v : Value) (Hf : Hp) : Prop := ∃ p c, v = .slice p l.length c ∧ ((l = [] ∧ Hf = []) ∨ ∃ b o, p = some ⟨b, o, none⟩ ∧ Hf = [⟨b, o, .ro, prC l⟩])
def W.lo (n : Nat) : W := ⟨n % 18446744073709551616, 0, 0, 0, Nat.mod_lt _ (by decide), by decide, by decide, by decide⟩
theorem W.lo_agg {n : Nat} (h : n < 18446744073709551616) : Value.agg #[.int .u64 (n : Int), .int .u64 0, .int .u64 0, .int .u64 0] = (W.lo n).v := by
  unfold W.lo W.v W.cells; simp only [Nat.mod_eq_of_lt h]; rfl
theorem W.take3A (x : W) (l : List Value) : List.take 3 (x.cells ++ l) = [.int .u64 x.a, .int .u64 x.b, .int .u64 x.c] := rfl
theorem W.take1A (x : W) (l : List Value) : List.take 1 (x.cells ++ l) = [.int .u64 x.a] := rfl
theorem W.all2 (x y : W) : (x.cells ++ y.cells).all oneC = true := rfl
attribute [push_cast] W.all2 W.take3A
/-- a slot of two raw numbers -/
def mkKey (c : Int) : W := ⟨(W.lo (pickN c 24)).a, 0, 0, if pickN c 5 = 0 then 7 else 0, (W.lo _).ha, by decide, by decide, by split <;> decide⟩
def W.nine : W := ⟨0, 0, 0, 9, by decide, by decide, by decide, by decide⟩
def mkVal (c : Int) (noughts : Bool) : W := if pickN c 5 = 0 then (if noughts then W.zero else W.nine) else W.lo (pickN c 5)
def mkSl (noughts : Bool) (r : Int × Int) : Sl := ⟨mkKey r.1, mkVal r.2 noughts⟩
/-- where a slot goes -/
def insS (x : Sl) : List Sl → Bool → List Sl
  | [], d => if d then [] else [x]
  | y :: r, d => (if !d && decide (x.key.num ≤ y.key.num) then [x] else []) ++ ((if y.key = x.key then [] else [y]) ++ insS x r (d || decide (x.key.num ≤ y.key.num)))
def slotsL (noughts : Bool) : List (Int × Int) → List Sl → List Sl
  | [], out => out
  | r :: rs, out => slotsL noughts rs (insS (mkSl noughts r) out false)
theorem slC_cons (x : Sl) (r : List Sl) : slC (x :: r) = x.cells ++ slC r := rfl
theorem slC_nil : slC [] = [] := rfl
theorem insS_ne (x : Sl) : ∀ (l : List Sl), x ∈ insS x l false
  | [] => by simp [insS]
  | y :: r => by
    simp only [insS, Bool.not_false, Bool.true_and, Bool.false_or]
    by_cases h : x.key.num ≤ y.key.num
    · simp [h]
    · simp only [h, decide_false]
      exact List.mem_append_right _ (List.mem_append_right _ (insS_ne x r))
theorem insS_len (x : Sl) : ∀ (l : List Sl) (d : Bool), (insS x l d).length ≤ l.length + 1
  | [], d => by cases d <;> simp [insS]
  | y :: r, d => by
    have h1 := insS_len x r (d || decide (x.key.num ≤ y.key.num))
    have h2 : d = true ∨ decide (x.key.num ≤ y.key.num) = true → (insS x r (d || decide (x.key.num ≤ y.key.num))).length ≤ r.length := fun h => by
      have : (d || decide (x.key.num ≤ y.key.num)) = true := by simpa using h
      rw [this]; exact insS_len2 r
    simp only [insS, List.length_append, List.length_cons]
    cases d <;> cases hd : decide (x.key.num ≤ y.key.num) <;> simp [hd] at h1 h2 ⊢ <;> split <;> simp <;> omega
where insS_len2 {x : Sl} : ∀ (l : List Sl), (insS x l true).length ≤ l.length
  | [] => by simp [insS]
  | y :: r => by
    have := insS_len2 (x := x) r
    simp only [insS, List.length_append, List.length_cons, Bool.true_or, Bool.not_true, Bool.false_and, Bool.false_eq_true, if_false, List.length_nil]
    split <;> simp <;> omega
end Go.Ev
namespace Go.Proofs.Ytfjenfjfiinjmaa
open Go Go.Ev Go.Proofs
set_option maxRecDepth 100000
set_option maxHeartbeats 4000000
theorem pick_ok (c n : Int) (hc : i64In c) (hn : 0 < n) (hn2 : i64In n) : CallsV Try.prog 10 [.int .i64 c, .int .i64 n] [] (Ret0 (.int .i64 (pickN c n))) := by
  have hn0 : ¬ n = 0 := by omega
  have h2 := pickN_lt c hn
  unfold i64In at hc hn2
  refine callsO (noG_ok _) Try.mix Try.pl10 Try.func10 rfl Try.ntmps10 Try.results10 rfl (by first | rfl | assumption) (Nat.le_of_ble_eq_true rfl) (by kernel_rfl) ?_
  rcases Int.lt_or_le c 0 with h | h
  · have e1 : pickN c n = (-(c + 1)).tmod n := by
      have := Int.emod_nonneg (-(c + 1)) hn0
      unfold pickN; rw [if_pos h, Int.tmod_eq_emod_of_nonneg (by omega)]; omega
    have e2 : (0 - (c + 1)) = -(c + 1) := by omega
    simp only [push_cast, Nat.reduceAdd, Nat.reduceSub, Nat.reduceMul, Nat.reduceLT, Nat.reduceLeDiff, Nat.reduceEqDiff, Nat.reduceMod, Nat.reduceDiv, Int.reduceAdd, Int.reduceSub, Int.reduceMul, Int.reduceLT, Int.reduceLE, Int.reduceEq, Int.reduceNeg, Int.reduceToNat, reduceIte, reduceCtorEq, h, wrap_i64' (show -9223372036854775808 ≤ c + 1 ∧ c + 1 ≤ 9223372036854775807 by omega), hn0, e2, wrap_i64' (show -9223372036854775808 ≤ -(c + 1) ∧ -(c + 1) ≤ 9223372036854775807 by omega), e1]
  · have h' : ¬ c < 0 := by omega
    have e1 : pickN c n = c.tmod n := by
      have := Int.emod_nonneg c hn0
      unfold pickN; rw [if_neg h', Int.tmod_eq_emod_of_nonneg (by omega)]; omega
    simp only [push_cast, Nat.reduceAdd, Nat.reduceSub, Nat.reduceMul, Nat.reduceLT, Nat.reduceLeDiff, Nat.reduceEqDiff, Nat.reduceMod, Nat.reduceDiv, Int.reduceAdd, Int.reduceSub, Int.reduceMul, Int.reduceLT, Int.reduceLE, Int.reduceEq, Int.reduceNeg, Int.reduceToNat, reduceIte, reduceCtorEq, h', hn0, e1]
noncomputable def gC : Gam := addG 10 pickG gB
attribute [push_cast] gC
theorem gC_ok : GamOk Try.prog gC := by
  refine addG_ok (fun args v h => ?_) gB_ok
  unfold pickG at h
  split at h
  · split at h
    · rename_i c n hh; cases h; exact pick_ok c n hh.1 hh.2.1 hh.2.2
    · cases h
  · cases h
theorem slots_ok {Hf : Hp} {raw : List (Int × Int)} {v : Value} {noughts : Bool} (hv : PrH raw v Hf) (hb : ∀ x ∈ raw, i64In x.1 ∧ i64In x.2) (hn : raw.length ≤ 9223372036854775807) :
    CallsV Try.prog 9 [v, .bool noughts] Hf (OutS 31 (slotsL noughts (raw.take 20) [])) := by
  obtain ⟨p, c, rfl, ⟨rfl, rfl⟩ | ⟨br, orr, rfl, rfl⟩⟩ := hv
  · refine callsO gC_ok Try.mix Try.pl9 Try.func9 rfl Try.ntmps9 Try.results9 rfl (by first | rfl | assumption) (Nat.le_of_ble_eq_true rfl) (by kernel_rfl) ?_
    simp only [push_cast, Nat.reduceAdd, Nat.reduceSub, Nat.reduceMul, Nat.reduceLT, Nat.reduceLeDiff, Nat.reduceEqDiff, Nat.reduceMod, Nat.reduceDiv, Int.reduceAdd, Int.reduceSub, Int.reduceMul, Int.reduceLT, Int.reduceLE, Int.reduceEq, Int.reduceNeg, Int.reduceToNat, reduceIte, reduceCtorEq]
    refine unrollO gC_ok (pl := Try.pl9) Try.mix 1 (by kernel_rfl) ?_
    simp only [push_cast, Nat.reduceAdd, Nat.reduceSub, Nat.reduceMul, Nat.reduceLT, Nat.reduceLeDiff, Nat.reduceEqDiff, Nat.reduceMod, Nat.reduceDiv, Int.reduceAdd, Int.reduceSub, Int.reduceMul, Int.reduceLT, Int.reduceLE, Int.reduceEq, Int.reduceNeg, Int.reduceToNat, reduceIte, reduceCtorEq, Int.lt_irrefl]
    exact sub0 (.inl ⟨rfl, rfl, rfl⟩)
  refine callsO gC_ok Try.mix Try.pl9 Try.func9 rfl Try.ntmps9 Try.results9 rfl (by first | rfl | assumption) (Nat.le_of_ble_eq_true rfl) (by kernel_rfl) ?_
  simp only [push_cast, Nat.reduceAdd, Nat.reduceSub, Nat.reduceMul, Nat.reduceLT, Nat.reduceLeDiff, Nat.reduceEqDiff, Nat.reduceMod, Nat.reduceDiv, Int.reduceAdd, Int.reduceSub, Int.reduceMul, Int.reduceLT, Int.reduceLE, Int.reduceEq, Int.reduceNeg, Int.reduceToNat, reduceIte, reduceCtorEq]
  refine loopO gC_ok (pl := Try.pl9) Try.mix (X := Nat × List Sl × Value × Hp)
    (fun s => ([(0, .slice (some ⟨br, orr, none⟩) raw.length c), (1, .bool noughts), (5, s.2.2.1), (6, .int .i64 s.1)], s.2.2.2 ++ [⟨br, orr, .ro, prC raw⟩]))
    (fun s => s.1 ≤ 20 ∧ s.1 ≤ raw.length ∧ slotsL noughts ((raw.take 20).drop s.1) s.2.1 = slotsL noughts (raw.take 20) [] ∧ s.2.1.length ≤ s.1 ∧ OutS 31 s.2.1 s.2.2.1 s.2.2.2 ∧ freshN s.2.2.2 [⟨br, 0, .ro, []⟩])
    (fun s => 20 - s.1) (0, [], .slice none 0 0, []) ?_ ?_ (by kernel_rfl) ?_
  · exact ⟨by omega, by omega, rfl, by simp, .inl ⟨rfl, rfl, rfl⟩, trivial⟩
  · simp only [push_cast, Nat.reduceAdd, Nat.reduceSub, Nat.reduceMul, Nat.reduceLT, Nat.reduceLeDiff, Nat.reduceEqDiff, Nat.reduceMod, Nat.reduceDiv, Int.reduceAdd, Int.reduceSub, Int.reduceMul, Int.reduceLT, Int.reduceLE, Int.reduceEq, Int.reduceNeg, Int.reduceToNat, reduceIte, reduceCtorEq]
  · rintro ⟨i, out, vo, No⟩ ⟨hi, hir, hs, hol, ho, hfo⟩
    dsimp only at hi hir hs hol ho hfo ⊢
    rcases Nat.lt_or_ge i raw.length with hlt | hge
    · rcases Nat.lt_or_ge i 20 with h20 | h20
      · obtain ⟨r, hr⟩ : ∃ x, raw[i]? = some x := ⟨raw[i], List.getElem?_eq_getElem hlt⟩
        have hat := prC_at hr
        have hbr := hb r (List.mem_of_getElem? hr)
        have e1 : (i : Int) < 20 := by omega
        have p24 := pickN_lt r.1 (n := 24) (by omega)
        have p5 := pickN_lt r.1 (n := 5) (by omega)
        have q5 := pickN_lt r.2 (n := 5) (by omega)
        have u1 := wrap_u64' (n := (pickN r.1 24 : Int)) (by omega)
        have u2 := wrap_u64' (n := (pickN r.2 5 : Int)) (by omega)
        have l1 := W.lo_agg (n := pickN r.1 24) (by omega)
        have l2 := W.lo_agg (n := pickN r.2 5) (by omega)
        have b24 : i64In 24 := by decide
        have b5 : i64In 5 := by decide
        have hfb : findE (No ++ [⟨br, orr, .ro, prC raw⟩]) br = some ⟨br, orr, .ro, prC raw⟩ := by
          rw [findE_skip]
          · simp [findE]
          · intro x hx h
            exact freshN_ne hfo x hx ⟨br, 0, .ro, []⟩ (by simp) h.symm
        simp only [push_cast, Nat.reduceAdd, Nat.reduceSub, Nat.reduceMul, Nat.reduceLT, Nat.reduceLeDiff, Nat.reduceEqDiff, Nat.reduceMod, Nat.reduceDiv, Int.reduceAdd, Int.reduceSub, Int.reduceMul, Int.reduceLT, Int.reduceLE, Int.reduceEq, Int.reduceNeg, Int.reduceToNat, reduceIte, reduceCtorEq, hlt, hat, e1, hfb, hbr, b24, b5, u1, u2, l1, l2]
        intro b7 hb7
        have hf7 := fresh_find hb7 hfb
        simp only [push_cast, Nat.reduceAdd, Nat.reduceSub, Nat.reduceMul, Nat.reduceLT, Nat.reduceLeDiff, Nat.reduceEqDiff, Nat.reduceMod, Nat.reduceDiv, Int.reduceAdd, Int.reduceSub, Int.reduceMul, Int.reduceLT, Int.reduceLE, Int.reduceEq, Int.reduceNeg, Int.reduceToNat, reduceIte, reduceCtorEq, hb7]
        obtain ⟨x, hx⟩ : ∃ x, x = mkSl noughts r := ⟨_, rfl⟩
        refine (fun inner => ?main : ((T : Tm) → (H : Hp) → subT T [(0, .slice (some ⟨br, orr, none⟩) raw.length c), (1, .bool noughts), (5, vo), (6, .int .i64 i), (7, .pointer (some ⟨b7, 0, none⟩)), (8, .slice none 0 0), (9, .bool false), (10, .int .i64 0)] →
          subH H (⟨b7, 0, .cel 31, x.cells⟩ :: (No ++ [⟨br, orr, .ro, prC raw⟩])) → marksOf H = [] → WpV Try.prog none 103 (.loop ?c) ?K T H) → _) ?inner
        case main =>
          have hz : decide (W.lo (pickN r.2 5) = W.zero) = decide (pickN r.2 5 = 0) := by
            rw [Bool.eq_iff_iff, decide_eq_true_eq, decide_eq_true_eq]
            constructor
            · intro h
              have := congrArg W.a h
              simp only [W.lo, W.zero] at this
              omega
            · intro h; rw [h]; rfl
          by_cases c1 : pickN r.1 5 = 0
          · have h1 : ((pickN r.1 5 : Int) == 0) = true := by rw [c1]; rfl
            by_cases c2 : ¬ pickN r.2 5 = 0
            · have h2 : decide (W.lo (pickN r.2 5) = W.zero) = false := by rw [hz]; simpa using c2
              simp only [push_cast, Nat.reduceAdd, Nat.reduceSub, Nat.reduceMul, Nat.reduceLT, Nat.reduceLeDiff, Nat.reduceEqDiff, Nat.reduceMod, Nat.reduceDiv, Int.reduceAdd, Int.reduceSub, Int.reduceMul, Int.reduceLT, Int.reduceLE, Int.reduceEq, Int.reduceNeg, Int.reduceToNat, reduceIte, reduceCtorEq, h1, h2, hf7, hfb, hlt, hat, hbr, b24, b5]
              refine inner _ _ ?_ ?_ ?_
              · simp only [push_cast, Nat.reduceAdd, Nat.reduceSub, Nat.reduceMul, Nat.reduceLT, Nat.reduceLeDiff, Nat.reduceEqDiff, Nat.reduceMod, Nat.reduceDiv, Int.reduceAdd, Int.reduceSub, Int.reduceMul, Int.reduceLT, Int.reduceLE, Int.reduceEq, Int.reduceNeg, Int.reduceToNat, reduceIte, reduceCtorEq]
              · rw [hx]
                simp only [Sl.cells, W.cells, mkSl, mkKey, mkVal, c1, c2, if_true, if_false, W.nine, W.zero, W.lo, List.cons_append, List.nil_append, Bool.false_eq_true]
                exact subH_self _
              · simp only [push_cast, Nat.reduceAdd, Nat.reduceSub, Nat.reduceMul, Nat.reduceLT, Nat.reduceLeDiff, Nat.reduceEqDiff, Nat.reduceMod, Nat.reduceDiv, Int.reduceAdd, Int.reduceSub, Int.reduceMul, Int.reduceLT, Int.reduceLE, Int.reduceEq, Int.reduceNeg, Int.reduceToNat, reduceIte, reduceCtorEq, marks_append, ho.wr.2]
            · have h2 : decide (W.lo (pickN r.2 5) = W.zero) = true := by rw [hz]; simpa using c2
              replace c2 := Decidable.not_not.1 c2
              simp only [push_cast, Nat.reduceAdd, Nat.reduceSub, Nat.reduceMul, Nat.reduceLT, Nat.reduceLeDiff, Nat.reduceEqDiff, Nat.reduceMod, Nat.reduceDiv, Int.reduceAdd, Int.reduceSub, Int.reduceMul, Int.reduceLT, Int.reduceLE, Int.reduceEq, Int.reduceNeg, Int.reduceToNat, reduceIte, reduceCtorEq, h1, h2, hf7, hfb, hlt, hat, hbr, b24, b5]
              simp only [sel_ite, decide_eq_true_eq, bne_iff_ne, ne_eq, beq_iff_eq]
              split
              · rename_i hnn
                replace hnn : noughts = false := by simpa using hnn
                refine inner _ _ ?_ ?_ ?_
                · simp only [push_cast, Nat.reduceAdd, Nat.reduceSub, Nat.reduceMul, Nat.reduceLT, Nat.reduceLeDiff, Nat.reduceEqDiff, Nat.reduceMod, Nat.reduceDiv, Int.reduceAdd, Int.reduceSub, Int.reduceMul, Int.reduceLT, Int.reduceLE, Int.reduceEq, Int.reduceNeg, Int.reduceToNat, reduceIte, reduceCtorEq]
                · rw [hx]
                  simp only [Sl.cells, W.cells, mkSl, mkKey, mkVal, c1, c2, hnn, if_true, if_false, W.nine, W.zero, W.lo, List.cons_append, List.nil_append, Bool.false_eq_true]
                  exact subH_self _
                · simp only [push_cast, Nat.reduceAdd, Nat.reduceSub, Nat.reduceMul, Nat.reduceLT, Nat.reduceLeDiff, Nat.reduceEqDiff, Nat.reduceMod, Nat.reduceDiv, Int.reduceAdd, Int.reduceSub, Int.reduceMul, Int.reduceLT, Int.reduceLE, Int.reduceEq, Int.reduceNeg, Int.reduceToNat, reduceIte, reduceCtorEq, marks_append, ho.wr.2]
              · rename_i hnn
                replace hnn : noughts = true := by simpa using hnn
                refine inner _ _ ?_ ?_ ?_
                · simp only [push_cast, Nat.reduceAdd, Nat.reduceSub, Nat.reduceMul, Nat.reduceLT, Nat.reduceLeDiff, Nat.reduceEqDiff, Nat.reduceMod, Nat.reduceDiv, Int.reduceAdd, Int.reduceSub, Int.reduceMul, Int.reduceLT, Int.reduceLE, Int.reduceEq, Int.reduceNeg, Int.reduceToNat, reduceIte, reduceCtorEq]
                · rw [hx]
                  simp only [Sl.cells, W.cells, mkSl, mkKey, mkVal, c1, c2, hnn, if_true, if_false, W.nine, W.zero, W.lo, List.cons_append, List.nil_append, Bool.false_eq_true]
                  exact subH_self _
                · simp only [push_cast, Nat.reduceAdd, Nat.reduceSub, Nat.reduceMul, Nat.reduceLT, Nat.reduceLeDiff, Nat.reduceEqDiff, Nat.reduceMod, Nat.reduceDiv, Int.reduceAdd, Int.reduceSub, Int.reduceMul, Int.reduceLT, Int.reduceLE, Int.reduceEq, Int.reduceNeg, Int.reduceToNat, reduceIte, reduceCtorEq, marks_append, ho.wr.2]
          · have h1 : ((pickN r.1 5 : Int) == 0) = false := by rw [beq_eq_false_iff_ne]; omega
            by_cases c2 : ¬ pickN r.2 5 = 0
            · have h2 : decide (W.lo (pickN r.2 5) = W.zero) = false := by rw [hz]; simpa using c2
              simp only [push_cast, Nat.reduceAdd, Nat.reduceSub, Nat.reduceMul, Nat.reduceLT, Nat.reduceLeDiff, Nat.reduceEqDiff, Nat.reduceMod, Nat.reduceDiv, Int.reduceAdd, Int.reduceSub, Int.reduceMul, Int.reduceLT, Int.reduceLE, Int.reduceEq, Int.reduceNeg, Int.reduceToNat, reduceIte, reduceCtorEq, h1, h2, hf7, hfb, hlt, hat, hbr, b24, b5]
              refine inner _ _ ?_ ?_ ?_
              · simp only [push_cast, Nat.reduceAdd, Nat.reduceSub, Nat.reduceMul, Nat.reduceLT, Nat.reduceLeDiff, Nat.reduceEqDiff, Nat.reduceMod, Nat.reduceDiv, Int.reduceAdd, Int.reduceSub, Int.reduceMul, Int.reduceLT, Int.reduceLE, Int.reduceEq, Int.reduceNeg, Int.reduceToNat, reduceIte, reduceCtorEq]
              · rw [hx]
                simp only [Sl.cells, W.cells, mkSl, mkKey, mkVal, c1, c2, if_true, if_false, W.nine, W.zero, W.lo, List.cons_append, List.nil_append, Bool.false_eq_true]
                exact subH_self _
              · simp only [push_cast, Nat.reduceAdd, Nat.reduceSub, Nat.reduceMul, Nat.reduceLT, Nat.reduceLeDiff, Nat.reduceEqDiff, Nat.reduceMod, Nat.reduceDiv, Int.reduceAdd, Int.reduceSub, Int.reduceMul, Int.reduceLT, Int.reduceLE, Int.reduceEq, Int.reduceNeg, Int.reduceToNat, reduceIte, reduceCtorEq, marks_append, ho.wr.2]
            · have h2 : decide (W.lo (pickN r.2 5) = W.zero) = true := by rw [hz]; simpa using c2
              replace c2 := Decidable.not_not.1 c2
              simp only [push_cast, Nat.reduceAdd, Nat.reduceSub, Nat.reduceMul, Nat.reduceLT, Nat.reduceLeDiff, Nat.reduceEqDiff, Nat.reduceMod, Nat.reduceDiv, Int.reduceAdd, Int.reduceSub, Int.reduceMul, Int.reduceLT, Int.reduceLE, Int.reduceEq, Int.reduceNeg, Int.reduceToNat, reduceIte, reduceCtorEq, h1, h2, hf7, hfb, hlt, hat, hbr, b24, b5]
              simp only [sel_ite, decide_eq_true_eq, bne_iff_ne, ne_eq, beq_iff_eq]
              split
              · rename_i hnn
                replace hnn : noughts = false := by simpa using hnn
                refine inner _ _ ?_ ?_ ?_
                · simp only [push_cast, Nat.reduceAdd, Nat.reduceSub, Nat.reduceMul, Nat.reduceLT, Nat.reduceLeDiff, Nat.reduceEqDiff, Nat.reduceMod, Nat.reduceDiv, Int.reduceAdd, Int.reduceSub, Int.reduceMul, Int.reduceLT, Int.reduceLE, Int.reduceEq, Int.reduceNeg, Int.reduceToNat, reduceIte, reduceCtorEq]
                · rw [hx]
                  simp only [Sl.cells, W.cells, mkSl, mkKey, mkVal, c1, c2, hnn, if_true, if_false, W.nine, W.zero, W.lo, List.cons_append, List.nil_append, Bool.false_eq_true]
                  exact subH_self _
                · simp only [push_cast, Nat.reduceAdd, Nat.reduceSub, Nat.reduceMul, Nat.reduceLT, Nat.reduceLeDiff, Nat.reduceEqDiff, Nat.reduceMod, Nat.reduceDiv, Int.reduceAdd, Int.reduceSub, Int.reduceMul, Int.reduceLT, Int.reduceLE, Int.reduceEq, Int.reduceNeg, Int.reduceToNat, reduceIte, reduceCtorEq, marks_append, ho.wr.2]
              · rename_i hnn
                replace hnn : noughts = true := by simpa using hnn
                refine inner _ _ ?_ ?_ ?_
                · simp only [push_cast, Nat.reduceAdd, Nat.reduceSub, Nat.reduceMul, Nat.reduceLT, Nat.reduceLeDiff, Nat.reduceEqDiff, Nat.reduceMod, Nat.reduceDiv, Int.reduceAdd, Int.reduceSub, Int.reduceMul, Int.reduceLT, Int.reduceLE, Int.reduceEq, Int.reduceNeg, Int.reduceToNat, reduceIte, reduceCtorEq]
                · rw [hx]
                  simp only [Sl.cells, W.cells, mkSl, mkKey, mkVal, c1, c2, hnn, if_true, if_false, W.nine, W.zero, W.lo, List.cons_append, List.nil_append, Bool.false_eq_true]
                  exact subH_self _
                · simp only [push_cast, Nat.reduceAdd, Nat.reduceSub, Nat.reduceMul, Nat.reduceLT, Nat.reduceLeDiff, Nat.reduceEqDiff, Nat.reduceMod, Nat.reduceDiv, Int.reduceAdd, Int.reduceSub, Int.reduceMul, Int.reduceLT, Int.reduceLE, Int.reduceEq, Int.reduceNeg, Int.reduceToNat, reduceIte, reduceCtorEq, marks_append, ho.wr.2]
        case inner =>
          intro T H hT hH hm
          have hns : slotsL noughts ((raw.take 20).drop (i + 1)) (insS x out false) = slotsL noughts (raw.take 20) [] := by
            rw [← hs, List.drop_eq_getElem_cons (l := raw.take 20) (i := i) (by simp; omega), slotsL, hx]
            congr 2
            rw [List.getElem_take, (List.getElem?_eq_some_iff.1 hr).2]
          have hlen : (insS x out false).length ≤ 21 := by have := insS_len x out false; omega
          rcases ho with ⟨h0, rfl, rfl⟩ | ⟨bo, co, h0, rfl, hco, rfl⟩
          · subst h0
            refine WpV.sub (s := (_, _)) ⟨hT, hH, by rw [hm]; rfl⟩ ?_
            refine unrollO gC_ok (pl := Try.pl9) Try.mix 1 (by kernel_rfl) ?_
            simp only [push_cast, Nat.reduceAdd, Nat.reduceSub, Nat.reduceMul, Nat.reduceLT, Nat.reduceLeDiff, Nat.reduceEqDiff, Nat.reduceMod, Nat.reduceDiv, Int.reduceAdd, Int.reduceSub, Int.reduceMul, Int.reduceLT, Int.reduceLE, Int.reduceEq, Int.reduceNeg, Int.reduceToNat, reduceIte, reduceCtorEq] at hb7
            simp only [push_cast, Nat.reduceAdd, Nat.reduceSub, Nat.reduceMul, Nat.reduceLT, Nat.reduceLeDiff, Nat.reduceEqDiff, Nat.reduceMod, Nat.reduceDiv, Int.reduceAdd, Int.reduceSub, Int.reduceMul, Int.reduceLT, Int.reduceLE, Int.reduceEq, Int.reduceNeg, Int.reduceToNat, reduceIte, reduceCtorEq, Int.lt_irrefl, Sl.agg]
            intro b9 hb9
            try simp only [push_cast, Nat.reduceAdd, Nat.reduceSub, Nat.reduceMul, Nat.reduceLT, Nat.reduceLeDiff, Nat.reduceEqDiff, Nat.reduceMod, Nat.reduceDiv, Int.reduceAdd, Int.reduceSub, Int.reduceMul, Int.reduceLT, Int.reduceLE, Int.reduceEq, Int.reduceNeg, Int.reduceToNat, reduceIte, reduceCtorEq, hb7, hb9]
            refine ⟨by unfold two47; omega, fun b10 c10 hb10 hc10 => ?_⟩
            simp only [push_cast, Nat.reduceAdd, Nat.reduceSub, Nat.reduceMul, Nat.reduceLT, Nat.reduceLeDiff, Nat.reduceEqDiff, Nat.reduceMod, Nat.reduceDiv, Int.reduceAdd, Int.reduceSub, Int.reduceMul, Int.reduceLT, Int.reduceLE, Int.reduceEq, Int.reduceNeg, Int.reduceToNat, reduceIte, reduceCtorEq, hb7, hb9, hb10, wrap_i64' (show -9223372036854775808 ≤ (i : Int) + 1 ∧ (i : Int) + 1 ≤ 9223372036854775807 by omega)]
            refine ⟨(i + 1, [x], .slice (some ⟨b10, 0, none⟩) 1 c10, [⟨b10, 0, .vec 31 8 c10, slC [x]⟩]), ⟨h20, hlt, hns, ?_, .inr ⟨b10, c10, by simp, rfl, hc10, rfl⟩, ?_⟩, ?_, ?_⟩
            · dsimp only [List.length_singleton]; omega
            · simp only [push_cast, Nat.reduceAdd, Nat.reduceSub, Nat.reduceMul, Nat.reduceLT, Nat.reduceLeDiff, Nat.reduceEqDiff, Nat.reduceMod, Nat.reduceDiv, Int.reduceAdd, Int.reduceSub, Int.reduceMul, Int.reduceLT, Int.reduceLE, Int.reduceEq, Int.reduceNeg, Int.reduceToNat, reduceIte, reduceCtorEq, hb10]
            · dsimp only; omega
            · simp only [push_cast, Nat.reduceAdd, Nat.reduceSub, Nat.reduceMul, Nat.reduceLT, Nat.reduceLeDiff, Nat.reduceEqDiff, Nat.reduceMod, Nat.reduceDiv, Int.reduceAdd, Int.reduceSub, Int.reduceMul, Int.reduceLT, Int.reduceLE, Int.reduceEq, Int.reduceNeg, Int.reduceToNat, reduceIte, reduceCtorEq, hb10, hb9, hb7]
          · simp only [push_cast, Nat.reduceAdd, Nat.reduceSub, Nat.reduceMul, Nat.reduceLT, Nat.reduceLeDiff, Nat.reduceEqDiff, Nat.reduceMod, Nat.reduceDiv, Int.reduceAdd, Int.reduceSub, Int.reduceMul, Int.reduceLT, Int.reduceLE, Int.reduceEq, Int.reduceNeg, Int.reduceToNat, reduceIte, reduceCtorEq] at hb7 hfo
            have hdr : ∀ (k : Nat) (y : Sl), out[k]? = some y → ∀ d, insS x (out.drop k) d = (if !d && decide (x.key.num ≤ y.key.num) then [x] else []) ++ ((if y.key = x.key then [] else [y]) ++ insS x (out.drop (k + 1)) (d || decide (x.key.num ≤ y.key.num))) := fun k y hy d => by
              have hk := (List.getElem?_eq_some_iff.1 hy).1
              rw [List.drop_eq_getElem_cons hk, (List.getElem?_eq_some_iff.1 hy).2, insS]
            refine loopO gC_ok (pl := Try.pl9) Try.mix (X := Nat × Bool × List Sl × Value × Hp)
              (fun s => ([(0, .slice (some ⟨br, orr, none⟩) raw.length c), (1, .bool noughts), (5, .slice (some ⟨bo, 0, none⟩) out.length co), (6, .int .i64 i), (7, .pointer (some ⟨b7, 0, none⟩)), (8, s.2.2.2.1), (9, .bool s.2.1), (10, .int .i64 s.1)],
                ⟨b7, 0, .cel 31, x.cells⟩ :: (s.2.2.2.2 ++ [⟨bo, 0, .vec 31 8 co, slC out⟩, ⟨br, orr, .ro, prC raw⟩])))
              (fun s => s.1 ≤ out.length ∧ s.2.2.1 ++ insS x (out.drop s.1) s.2.1 = insS x out false ∧ OutS 31 s.2.2.1 s.2.2.2.1 s.2.2.2.2 ∧ freshN s.2.2.2.2 [⟨b7, 0, .ro, []⟩, ⟨bo, 0, .ro, []⟩, ⟨br, 0, .ro, []⟩])
              (fun s => out.length - s.1) (0, false, [], .slice none 0 0, []) ⟨Nat.zero_le _, rfl, .inl ⟨rfl, rfl, rfl⟩, trivial⟩ ⟨hT, hH, by rw [hm]; rfl⟩ (by kernel_rfl) ?_
            rintro ⟨k, d, now, wn, Nn⟩ ⟨hk, hnow, hon, hfn⟩
            dsimp only at hk hnow hon hfn ⊢
            have hnl : now.length ≤ 21 := by
              have := congrArg List.length hnow
              rw [List.length_append] at this
              omega
            rcases Nat.lt_or_ge k out.length with hkl | hkg
            · obtain ⟨y, hy⟩ : ∃ x, out[k]? = some x := ⟨out[k], List.getElem?_eq_getElem hkl⟩
              have haty := slC_at hy
              rw [hdr k y hy] at hnow
              have w1 := wrap_i64' (show -9223372036854775808 ≤ (k : Int) + 1 ∧ (k : Int) + 1 ≤ 9223372036854775807 by omega)
              have hkk0 : y.key = x.key ∨ ¬ y.key = x.key := Decidable.em _
              rcases hon with ⟨n0, rfl, rfl⟩ | ⟨bn, cn, n0, rfl, hcn, rfl⟩
              · subst n0
                cases d
                · rcases Nat.lt_or_ge y.key.num x.key.num with hle | hle
                  · have hcm : ¬ (0 : Int) ≤ y.key.cmp x.key := by have := W.cmp_neg.2 hle; omega
                    have hdl2 : (x.key.num ≤ y.key.num) = False := eq_false (by omega)
                    rcases hkk0 with hke | hke
                    · have hke2 : (y.key = x.key) = True := eq_true hke
                      have hkk : decide (y.key = x.key) = true := by simpa using hke
                      simp only [hke2, hdl2, Bool.not_false, Bool.not_true, Bool.true_and, Bool.false_and, Bool.and_true, Bool.and_false, Bool.true_or, Bool.false_or, Bool.or_true, decide_true, decide_false, if_true, if_false, Bool.false_eq_true, List.nil_append, List.append_nil] at hnow
                      simp only [push_cast, Nat.reduceAdd, Nat.reduceSub, Nat.reduceMul, Nat.reduceLT, Nat.reduceLeDiff, Nat.reduceEqDiff, Nat.reduceMod, Nat.reduceDiv, Int.reduceAdd, Int.reduceSub, Int.reduceMul, Int.reduceLT, Int.reduceLE, Int.reduceEq, Int.reduceNeg, Int.reduceToNat, reduceIte, reduceCtorEq, hb7, hfo, hkl, haty, w1, hkk, Sl.agg, Sl.len, Sl.eta, hcm]
                      refine ⟨(k + 1, false, [], .slice none 0 0, []), ⟨hkl, by simpa using hnow, .inl ⟨rfl, rfl, rfl⟩, trivial⟩, ?_, ?_⟩
                      · dsimp only; omega
                      · simp only [push_cast, Nat.reduceAdd, Nat.reduceSub, Nat.reduceMul, Nat.reduceLT, Nat.reduceLeDiff, Nat.reduceEqDiff, Nat.reduceMod, Nat.reduceDiv, Int.reduceAdd, Int.reduceSub, Int.reduceMul, Int.reduceLT, Int.reduceLE, Int.reduceEq, Int.reduceNeg, Int.reduceToNat, reduceIte, reduceCtorEq, slC_app, slC_cons, slC_nil, hb7, hfo]
                    · have hke2 : (y.key = x.key) = False := eq_false hke
                      have hkk : decide (y.key = x.key) = false := by simpa using hke
                      simp only [hke2, hdl2, Bool.not_false, Bool.not_true, Bool.true_and, Bool.false_and, Bool.and_true, Bool.and_false, Bool.true_or, Bool.false_or, Bool.or_true, decide_true, decide_false, if_true, if_false, Bool.false_eq_true, List.nil_append, List.append_nil] at hnow
                      simp only [push_cast, Nat.reduceAdd, Nat.reduceSub, Nat.reduceMul, Nat.reduceLT, Nat.reduceLeDiff, Nat.reduceEqDiff, Nat.reduceMod, Nat.reduceDiv, Int.reduceAdd, Int.reduceSub, Int.reduceMul, Int.reduceLT, Int.reduceLE, Int.reduceEq, Int.reduceNeg, Int.reduceToNat, reduceIte, reduceCtorEq, hb7, hfo, hkl, haty, w1, hkk, Sl.agg, Sl.len, Sl.eta, hcm]
                      intro b20 hb20
                      try simp only [push_cast, Nat.reduceAdd, Nat.reduceSub, Nat.reduceMul, Nat.reduceLT, Nat.reduceLeDiff, Nat.reduceEqDiff, Nat.reduceMod, Nat.reduceDiv, Int.reduceAdd, Int.reduceSub, Int.reduceMul, Int.reduceLT, Int.reduceLE, Int.reduceEq, Int.reduceNeg, Int.reduceToNat, reduceIte, reduceCtorEq, hb7, hfo, hkl, haty, w1, hkk, Sl.agg, Sl.len, Sl.eta, hcm, hb20]
                      refine ⟨by unfold two47; omega, fun b21 c21 hb21 hcb21 => ?_⟩
                      simp only [push_cast, Nat.reduceAdd, Nat.reduceSub, Nat.reduceMul, Nat.reduceLT, Nat.reduceLeDiff, Nat.reduceEqDiff, Nat.reduceMod, Nat.reduceDiv, Int.reduceAdd, Int.reduceSub, Int.reduceMul, Int.reduceLT, Int.reduceLE, Int.reduceEq, Int.reduceNeg, Int.reduceToNat, reduceIte, reduceCtorEq, hb7, hfo, hkl, haty, w1, hkk, Sl.agg, Sl.len, Sl.eta, hcm, hb20, hb21]
                      refine ⟨(k + 1, false, [y], .slice (some ⟨b21, 0, none⟩) (1) c21, [⟨b21, 0, .vec 31 8 c21, slC ([y])⟩]), ⟨hkl, by simpa using hnow, .inr ⟨b21, c21, by simp, by simp, by simpa using hcb21, rfl⟩, by simp only [push_cast, Nat.reduceAdd, Nat.reduceSub, Nat.reduceMul, Nat.reduceLT, Nat.reduceLeDiff, Nat.reduceEqDiff, Nat.reduceMod, Nat.reduceDiv, Int.reduceAdd, Int.reduceSub, Int.reduceMul, Int.reduceLT, Int.reduceLE, Int.reduceEq, Int.reduceNeg, Int.reduceToNat, reduceIte, reduceCtorEq, hb21]⟩, ?_, ?_⟩
                      · dsimp only; omega
                      · simp only [push_cast, Nat.reduceAdd, Nat.reduceSub, Nat.reduceMul, Nat.reduceLT, Nat.reduceLeDiff, Nat.reduceEqDiff, Nat.reduceMod, Nat.reduceDiv, Int.reduceAdd, Int.reduceSub, Int.reduceMul, Int.reduceLT, Int.reduceLE, Int.reduceEq, Int.reduceNeg, Int.reduceToNat, reduceIte, reduceCtorEq, slC_app, slC_cons, slC_nil, hb7, hfo, hb20, hb21]
                  · have hcm : (0 : Int) ≤ y.key.cmp x.key := by have := mt W.cmp_neg.1 (Nat.not_lt.2 hle); omega
                    have hdl2 : (x.key.num ≤ y.key.num) = True := eq_true hle
                    rcases hkk0 with hke | hke
                    · have hke2 : (y.key = x.key) = True := eq_true hke
                      have hkk : decide (y.key = x.key) = true := by simpa using hke
                      simp only [hke2, hdl2, Bool.not_false, Bool.not_true, Bool.true_and, Bool.false_and, Bool.and_true, Bool.and_false, Bool.true_or, Bool.false_or, Bool.or_true, decide_true, decide_false, if_true, if_false, Bool.false_eq_true, List.nil_append, List.append_nil] at hnow
                      simp only [push_cast, Nat.reduceAdd, Nat.reduceSub, Nat.reduceMul, Nat.reduceLT, Nat.reduceLeDiff, Nat.reduceEqDiff, Nat.reduceMod, Nat.reduceDiv, Int.reduceAdd, Int.reduceSub, Int.reduceMul, Int.reduceLT, Int.reduceLE, Int.reduceEq, Int.reduceNeg, Int.reduceToNat, reduceIte, reduceCtorEq, hb7, hfo, hkl, haty, w1, hkk, Sl.agg, Sl.len, Sl.eta, hcm]
                      intro b20 hb20
                      try simp only [push_cast, Nat.reduceAdd, Nat.reduceSub, Nat.reduceMul, Nat.reduceLT, Nat.reduceLeDiff, Nat.reduceEqDiff, Nat.reduceMod, Nat.reduceDiv, Int.reduceAdd, Int.reduceSub, Int.reduceMul, Int.reduceLT, Int.reduceLE, Int.reduceEq, Int.reduceNeg, Int.reduceToNat, reduceIte, reduceCtorEq, hb7, hfo, hkl, haty, w1, hkk, Sl.agg, Sl.len, Sl.eta, hcm, hb20]
                      refine ⟨by unfold two47; omega, fun b21 c21 hb21 hcb21 => ?_⟩
                      simp only [push_cast, Nat.reduceAdd, Nat.reduceSub, Nat.reduceMul, Nat.reduceLT, Nat.reduceLeDiff, Nat.reduceEqDiff, Nat.reduceMod, Nat.reduceDiv, Int.reduceAdd, Int.reduceSub, Int.reduceMul, Int.reduceLT, Int.reduceLE, Int.reduceEq, Int.reduceNeg, Int.reduceToNat, reduceIte, reduceCtorEq, hb7, hfo, hkl, haty, w1, hkk, Sl.agg, Sl.len, Sl.eta, hcm, hb20, hb21]
                      refine ⟨(k + 1, true, [x], .slice (some ⟨b21, 0, none⟩) (1) c21, [⟨b21, 0, .vec 31 8 c21, slC ([x])⟩]), ⟨hkl, by simpa using hnow, .inr ⟨b21, c21, by simp, by simp, by simpa using hcb21, rfl⟩, by simp only [push_cast, Nat.reduceAdd, Nat.reduceSub, Nat.reduceMul, Nat.reduceLT, Nat.reduceLeDiff, Nat.reduceEqDiff, Nat.reduceMod, Nat.reduceDiv, Int.reduceAdd, Int.reduceSub, Int.reduceMul, Int.reduceLT, Int.reduceLE, Int.reduceEq, Int.reduceNeg, Int.reduceToNat, reduceIte, reduceCtorEq, hb21]⟩, ?_, ?_⟩
                      · dsimp only; omega
                      · simp only [push_cast, Nat.reduceAdd, Nat.reduceSub, Nat.reduceMul, Nat.reduceLT, Nat.reduceLeDiff, Nat.reduceEqDiff, Nat.reduceMod, Nat.reduceDiv, Int.reduceAdd, Int.reduceSub, Int.reduceMul, Int.reduceLT, Int.reduceLE, Int.reduceEq, Int.reduceNeg, Int.reduceToNat, reduceIte, reduceCtorEq, slC_app, slC_cons, slC_nil, hb7, hfo, hb20, hb21]
                    · have hke2 : (y.key = x.key) = False := eq_false hke
                      have hkk : decide (y.key = x.key) = false := by simpa using hke
                      simp only [hke2, hdl2, Bool.not_false, Bool.not_true, Bool.true_and, Bool.false_and, Bool.and_true, Bool.and_false, Bool.true_or, Bool.false_or, Bool.or_true, decide_true, decide_false, if_true, if_false, Bool.false_eq_true, List.nil_append, List.append_nil] at hnow
                      simp only [push_cast, Nat.reduceAdd, Nat.reduceSub, Nat.reduceMul, Nat.reduceLT, Nat.reduceLeDiff, Nat.reduceEqDiff, Nat.reduceMod, Nat.reduceDiv, Int.reduceAdd, Int.reduceSub, Int.reduceMul, Int.reduceLT, Int.reduceLE, Int.reduceEq, Int.reduceNeg, Int.reduceToNat, reduceIte, reduceCtorEq, hb7, hfo, hkl, haty, w1, hkk, Sl.agg, Sl.len, Sl.eta, hcm]
                      intro b20 hb20
                      try simp only [push_cast, Nat.reduceAdd, Nat.reduceSub, Nat.reduceMul, Nat.reduceLT, Nat.reduceLeDiff, Nat.reduceEqDiff, Nat.reduceMod, Nat.reduceDiv, Int.reduceAdd, Int.reduceSub, Int.reduceMul, Int.reduceLT, Int.reduceLE, Int.reduceEq, Int.reduceNeg, Int.reduceToNat, reduceIte, reduceCtorEq, hb7, hfo, hkl, haty, w1, hkk, Sl.agg, Sl.len, Sl.eta, hcm, hb20]
                      refine ⟨by unfold two47; omega, fun b21 c21 hb21 hcb21 => ?_⟩
                      simp only [push_cast, Nat.reduceAdd, Nat.reduceSub, Nat.reduceMul, Nat.reduceLT, Nat.reduceLeDiff, Nat.reduceEqDiff, Nat.reduceMod, Nat.reduceDiv, Int.reduceAdd, Int.reduceSub, Int.reduceMul, Int.reduceLT, Int.reduceLE, Int.reduceEq, Int.reduceNeg, Int.reduceToNat, reduceIte, reduceCtorEq, hb7, hfo, hkl, haty, w1, hkk, Sl.agg, Sl.len, Sl.eta, hcm, hb20, hb21]
                      intro b22 hb22
                      try simp only [push_cast, Nat.reduceAdd, Nat.reduceSub, Nat.reduceMul, Nat.reduceLT, Nat.reduceLeDiff, Nat.reduceEqDiff, Nat.reduceMod, Nat.reduceDiv, Int.reduceAdd, Int.reduceSub, Int.reduceMul, Int.reduceLT, Int.reduceLE, Int.reduceEq, Int.reduceNeg, Int.reduceToNat, reduceIte, reduceCtorEq, hb7, hfo, hkl, haty, w1, hkk, Sl.agg, Sl.len, Sl.eta, hcm, hb20, hb21, hb22]
                      refine ⟨by unfold two47; omega, fun b23 c23 hb23 hcb23 => ?_⟩
                      simp only [push_cast, Nat.reduceAdd, Nat.reduceSub, Nat.reduceMul, Nat.reduceLT, Nat.reduceLeDiff, Nat.reduceEqDiff, Nat.reduceMod, Nat.reduceDiv, Int.reduceAdd, Int.reduceSub, Int.reduceMul, Int.reduceLT, Int.reduceLE, Int.reduceEq, Int.reduceNeg, Int.reduceToNat, reduceIte, reduceCtorEq, hb7, hfo, hkl, haty, w1, hkk, Sl.agg, Sl.len, Sl.eta, hcm, hb20, hb21, hb22, hb23]
                      refine ⟨(k + 1, true, [x] ++ [y], .slice (some ⟨b23, 0, none⟩) (2) c23, [⟨b23, 0, .vec 31 8 c23, slC ([x] ++ [y])⟩]), ⟨hkl, by simpa using hnow, .inr ⟨b23, c23, by simp, by simp, by simpa using hcb23, rfl⟩, by simp only [push_cast, Nat.reduceAdd, Nat.reduceSub, Nat.reduceMul, Nat.reduceLT, Nat.reduceLeDiff, Nat.reduceEqDiff, Nat.reduceMod, Nat.reduceDiv, Int.reduceAdd, Int.reduceSub, Int.reduceMul, Int.reduceLT, Int.reduceLE, Int.reduceEq, Int.reduceNeg, Int.reduceToNat, reduceIte, reduceCtorEq, hb23]⟩, ?_, ?_⟩
                      · dsimp only; omega
                      · simp only [push_cast, Nat.reduceAdd, Nat.reduceSub, Nat.reduceMul, Nat.reduceLT, Nat.reduceLeDiff, Nat.reduceEqDiff, Nat.reduceMod, Nat.reduceDiv, Int.reduceAdd, Int.reduceSub, Int.reduceMul, Int.reduceLT, Int.reduceLE, Int.reduceEq, Int.reduceNeg, Int.reduceToNat, reduceIte, reduceCtorEq, slC_app, slC_cons, slC_nil, hb7, hfo, hb20, hb21, hb22, hb23]
                · rcases hkk0 with hke | hke
                  · have hke2 : (y.key = x.key) = True := eq_true hke
                    have hkk : decide (y.key = x.key) = true := by simpa using hke
                    simp only [hke2,  Bool.not_false, Bool.not_true, Bool.true_and, Bool.false_and, Bool.and_true, Bool.and_false, Bool.true_or, Bool.false_or, Bool.or_true, decide_true, decide_false, if_true, if_false, Bool.false_eq_true, List.nil_append, List.append_nil] at hnow
                    simp only [push_cast, Nat.reduceAdd, Nat.reduceSub, Nat.reduceMul, Nat.reduceLT, Nat.reduceLeDiff, Nat.reduceEqDiff, Nat.reduceMod, Nat.reduceDiv, Int.reduceAdd, Int.reduceSub, Int.reduceMul, Int.reduceLT, Int.reduceLE, Int.reduceEq, Int.reduceNeg, Int.reduceToNat, reduceIte, reduceCtorEq, hb7, hfo, hkl, haty, w1, hkk, Sl.agg, Sl.len, Sl.eta]
                    refine ⟨(k + 1, true, [], .slice none 0 0, []), ⟨hkl, by simpa using hnow, .inl ⟨rfl, rfl, rfl⟩, trivial⟩, ?_, ?_⟩
                    · dsimp only; omega
                    · simp only [push_cast, Nat.reduceAdd, Nat.reduceSub, Nat.reduceMul, Nat.reduceLT, Nat.reduceLeDiff, Nat.reduceEqDiff, Nat.reduceMod, Nat.reduceDiv, Int.reduceAdd, Int.reduceSub, Int.reduceMul, Int.reduceLT, Int.reduceLE, Int.reduceEq, Int.reduceNeg, Int.reduceToNat, reduceIte, reduceCtorEq, slC_app, slC_cons, slC_nil, hb7, hfo]
                  · have hke2 : (y.key = x.key) = False := eq_false hke
                    have hkk : decide (y.key = x.key) = false := by simpa using hke
                    simp only [hke2,  Bool.not_false, Bool.not_true, Bool.true_and, Bool.false_and, Bool.and_true, Bool.and_false, Bool.true_or, Bool.false_or, Bool.or_true, decide_true, decide_false, if_true, if_false, Bool.false_eq_true, List.nil_append, List.append_nil] at hnow
                    simp only [push_cast, Nat.reduceAdd, Nat.reduceSub, Nat.reduceMul, Nat.reduceLT, Nat.reduceLeDiff, Nat.reduceEqDiff, Nat.reduceMod, Nat.reduceDiv, Int.reduceAdd, Int.reduceSub, Int.reduceMul, Int.reduceLT, Int.reduceLE, Int.reduceEq, Int.reduceNeg, Int.reduceToNat, reduceIte, reduceCtorEq, hb7, hfo, hkl, haty, w1, hkk, Sl.agg, Sl.len, Sl.eta]
                    intro b20 hb20
                    try simp only [push_cast, Nat.reduceAdd, Nat.reduceSub, Nat.reduceMul, Nat.reduceLT, Nat.reduceLeDiff, Nat.reduceEqDiff, Nat.reduceMod, Nat.reduceDiv, Int.reduceAdd, Int.reduceSub, Int.reduceMul, Int.reduceLT, Int.reduceLE, Int.reduceEq, Int.reduceNeg, Int.reduceToNat, reduceIte, reduceCtorEq, hb7, hfo, hkl, haty, w1, hkk, Sl.agg, Sl.len, Sl.eta, hb20]
                    refine ⟨by unfold two47; omega, fun b21 c21 hb21 hcb21 => ?_⟩
                    simp only [push_cast, Nat.reduceAdd, Nat.reduceSub, Nat.reduceMul, Nat.reduceLT, Nat.reduceLeDiff, Nat.reduceEqDiff, Nat.reduceMod, Nat.reduceDiv, Int.reduceAdd, Int.reduceSub, Int.reduceMul, Int.reduceLT, Int.reduceLE, Int.reduceEq, Int.reduceNeg, Int.reduceToNat, reduceIte, reduceCtorEq, hb7, hfo, hkl, haty, w1, hkk, Sl.agg, Sl.len, Sl.eta, hb20, hb21]
                    refine ⟨(k + 1, true, [y], .slice (some ⟨b21, 0, none⟩) (1) c21, [⟨b21, 0, .vec 31 8 c21, slC ([y])⟩]), ⟨hkl, by simpa using hnow, .inr ⟨b21, c21, by simp, by simp, by simpa using hcb21, rfl⟩, by simp only [push_cast, Nat.reduceAdd, Nat.reduceSub, Nat.reduceMul, Nat.reduceLT, Nat.reduceLeDiff, Nat.reduceEqDiff, Nat.reduceMod, Nat.reduceDiv, Int.reduceAdd, Int.reduceSub, Int.reduceMul, Int.reduceLT, Int.reduceLE, Int.reduceEq, Int.reduceNeg, Int.reduceToNat, reduceIte, reduceCtorEq, hb21]⟩, ?_, ?_⟩
                    · dsimp only; omega
                    · simp only [push_cast, Nat.reduceAdd, Nat.reduceSub, Nat.reduceMul, Nat.reduceLT, Nat.reduceLeDiff, Nat.reduceEqDiff, Nat.reduceMod, Nat.reduceDiv, Int.reduceAdd, Int.reduceSub, Int.reduceMul, Int.reduceLT, Int.reduceLE, Int.reduceEq, Int.reduceNeg, Int.reduceToNat, reduceIte, reduceCtorEq, slC_app, slC_cons, slC_nil, hb7, hfo, hb20, hb21]
              · simp only [push_cast, Nat.reduceAdd, Nat.reduceSub, Nat.reduceMul, Nat.reduceLT, Nat.reduceLeDiff, Nat.reduceEqDiff, Nat.reduceMod, Nat.reduceDiv, Int.reduceAdd, Int.reduceSub, Int.reduceMul, Int.reduceLT, Int.reduceLE, Int.reduceEq, Int.reduceNeg, Int.reduceToNat, reduceIte, reduceCtorEq] at hfn
                have e8 : now.length * 8 + 8 = (now.length + 1) * 8 := by omega
                have e9 : (slC now).length = now.length * 8 := slC_len now
                cases d
                · rcases Nat.lt_or_ge y.key.num x.key.num with hle | hle
                  · have hcm : ¬ (0 : Int) ≤ y.key.cmp x.key := by have := W.cmp_neg.2 hle; omega
                    have hdl2 : (x.key.num ≤ y.key.num) = False := eq_false (by omega)
                    rcases hkk0 with hke | hke
                    · have hke2 : (y.key = x.key) = True := eq_true hke
                      have hkk : decide (y.key = x.key) = true := by simpa using hke
                      simp only [hke2, hdl2, Bool.not_false, Bool.not_true, Bool.true_and, Bool.false_and, Bool.and_true, Bool.and_false, Bool.true_or, Bool.false_or, Bool.or_true, decide_true, decide_false, if_true, if_false, Bool.false_eq_true, List.nil_append, List.append_nil] at hnow
                      simp only [push_cast, Nat.reduceAdd, Nat.reduceSub, Nat.reduceMul, Nat.reduceLT, Nat.reduceLeDiff, Nat.reduceEqDiff, Nat.reduceMod, Nat.reduceDiv, Int.reduceAdd, Int.reduceSub, Int.reduceMul, Int.reduceLT, Int.reduceLE, Int.reduceEq, Int.reduceNeg, Int.reduceToNat, reduceIte, reduceCtorEq, hb7, hfo, hkl, haty, w1, hkk, Sl.agg, Sl.len, Sl.eta, hcm, hfn, e9, e8]
                      refine ⟨(k + 1, false, now, .slice (some ⟨bn, 0, none⟩) now.length cn, [⟨bn, 0, .vec 31 8 cn, slC now⟩]), ⟨hkl, by simpa using hnow, .inr ⟨bn, cn, n0, rfl, hcn, rfl⟩, by simp only [push_cast, Nat.reduceAdd, Nat.reduceSub, Nat.reduceMul, Nat.reduceLT, Nat.reduceLeDiff, Nat.reduceEqDiff, Nat.reduceMod, Nat.reduceDiv, Int.reduceAdd, Int.reduceSub, Int.reduceMul, Int.reduceLT, Int.reduceLE, Int.reduceEq, Int.reduceNeg, Int.reduceToNat, reduceIte, reduceCtorEq, hfn]⟩, ?_, ?_⟩
                      · dsimp only; omega
                      · simp only [push_cast, Nat.reduceAdd, Nat.reduceSub, Nat.reduceMul, Nat.reduceLT, Nat.reduceLeDiff, Nat.reduceEqDiff, Nat.reduceMod, Nat.reduceDiv, Int.reduceAdd, Int.reduceSub, Int.reduceMul, Int.reduceLT, Int.reduceLE, Int.reduceEq, Int.reduceNeg, Int.reduceToNat, reduceIte, reduceCtorEq, slC_app, slC_cons, slC_nil, hb7, hfo, hfn]
                    · have hke2 : (y.key = x.key) = False := eq_false hke
                      have hkk : decide (y.key = x.key) = false := by simpa using hke
                      simp only [hke2, hdl2, Bool.not_false, Bool.not_true, Bool.true_and, Bool.false_and, Bool.and_true, Bool.and_false, Bool.true_or, Bool.false_or, Bool.or_true, decide_true, decide_false, if_true, if_false, Bool.false_eq_true, List.nil_append, List.append_nil] at hnow
                      simp only [push_cast, Nat.reduceAdd, Nat.reduceSub, Nat.reduceMul, Nat.reduceLT, Nat.reduceLeDiff, Nat.reduceEqDiff, Nat.reduceMod, Nat.reduceDiv, Int.reduceAdd, Int.reduceSub, Int.reduceMul, Int.reduceLT, Int.reduceLE, Int.reduceEq, Int.reduceNeg, Int.reduceToNat, reduceIte, reduceCtorEq, hb7, hfo, hkl, haty, w1, hkk, Sl.agg, Sl.len, Sl.eta, hcm, hfn, e9, e8]
                      intro b20 hb20
                      try simp only [push_cast, Nat.reduceAdd, Nat.reduceSub, Nat.reduceMul, Nat.reduceLT, Nat.reduceLeDiff, Nat.reduceEqDiff, Nat.reduceMod, Nat.reduceDiv, Int.reduceAdd, Int.reduceSub, Int.reduceMul, Int.reduceLT, Int.reduceLE, Int.reduceEq, Int.reduceNeg, Int.reduceToNat, reduceIte, reduceCtorEq, hb7, hfo, hkl, haty, w1, hkk, Sl.agg, Sl.len, Sl.eta, hcm, hfn, e9, e8, hb20]
                      refine ⟨by unfold two47; omega, fun b21 c21 hb21 hcb21 => ?_⟩
                      simp only [push_cast, Nat.reduceAdd, Nat.reduceSub, Nat.reduceMul, Nat.reduceLT, Nat.reduceLeDiff, Nat.reduceEqDiff, Nat.reduceMod, Nat.reduceDiv, Int.reduceAdd, Int.reduceSub, Int.reduceMul, Int.reduceLT, Int.reduceLE, Int.reduceEq, Int.reduceNeg, Int.reduceToNat, reduceIte, reduceCtorEq, hb7, hfo, hkl, haty, w1, hkk, Sl.agg, Sl.len, Sl.eta, hcm, hfn, e9, e8, hb20, hb21]
                      refine ⟨(k + 1, false, now ++ [y], .slice (some ⟨b21, 0, none⟩) (now.length + 1) c21, [⟨b21, 0, .vec 31 8 c21, slC (now ++ [y])⟩]), ⟨hkl, by simpa using hnow, .inr ⟨b21, c21, by simp, by simp, by simpa using hcb21, rfl⟩, by simp only [push_cast, Nat.reduceAdd, Nat.reduceSub, Nat.reduceMul, Nat.reduceLT, Nat.reduceLeDiff, Nat.reduceEqDiff, Nat.reduceMod, Nat.reduceDiv, Int.reduceAdd, Int.reduceSub, Int.reduceMul, Int.reduceLT, Int.reduceLE, Int.reduceEq, Int.reduceNeg, Int.reduceToNat, reduceIte, reduceCtorEq, hb21]⟩, ?_, ?_⟩
                      · dsimp only; omega
                      · simp only [push_cast, Nat.reduceAdd, Nat.reduceSub, Nat.reduceMul, Nat.reduceLT, Nat.reduceLeDiff, Nat.reduceEqDiff, Nat.reduceMod, Nat.reduceDiv, Int.reduceAdd, Int.reduceSub, Int.reduceMul, Int.reduceLT, Int.reduceLE, Int.reduceEq, Int.reduceNeg, Int.reduceToNat, reduceIte, reduceCtorEq, slC_app, slC_cons, slC_nil, hb7, hfo, hfn, hb20, hb21]
                  · have hcm : (0 : Int) ≤ y.key.cmp x.key := by have := mt W.cmp_neg.1 (Nat.not_lt.2 hle); omega
                    have hdl2 : (x.key.num ≤ y.key.num) = True := eq_true hle
                    rcases hkk0 with hke | hke
                    · have hke2 : (y.key = x.key) = True := eq_true hke
                      have hkk : decide (y.key = x.key) = true := by simpa using hke
                      simp only [hke2, hdl2, Bool.not_false, Bool.not_true, Bool.true_and, Bool.false_and, Bool.and_true, Bool.and_false, Bool.true_or, Bool.false_or, Bool.or_true, decide_true, decide_false, if_true, if_false, Bool.false_eq_true, List.nil_append, List.append_nil] at hnow
                      simp only [push_cast, Nat.reduceAdd, Nat.reduceSub, Nat.reduceMul, Nat.reduceLT, Nat.reduceLeDiff, Nat.reduceEqDiff, Nat.reduceMod, Nat.reduceDiv, Int.reduceAdd, Int.reduceSub, Int.reduceMul, Int.reduceLT, Int.reduceLE, Int.reduceEq, Int.reduceNeg, Int.reduceToNat, reduceIte, reduceCtorEq, hb7, hfo, hkl, haty, w1, hkk, Sl.agg, Sl.len, Sl.eta, hcm, hfn, e9, e8]
                      intro b20 hb20
                      try simp only [push_cast, Nat.reduceAdd, Nat.reduceSub, Nat.reduceMul, Nat.reduceLT, Nat.reduceLeDiff, Nat.reduceEqDiff, Nat.reduceMod, Nat.reduceDiv, Int.reduceAdd, Int.reduceSub, Int.reduceMul, Int.reduceLT, Int.reduceLE, Int.reduceEq, Int.reduceNeg, Int.reduceToNat, reduceIte, reduceCtorEq, hb7, hfo, hkl, haty, w1, hkk, Sl.agg, Sl.len, Sl.eta, hcm, hfn, e9, e8, hb20]
                      refine ⟨by unfold two47; omega, fun b21 c21 hb21 hcb21 => ?_⟩
                      simp only [push_cast, Nat.reduceAdd, Nat.reduceSub, Nat.reduceMul, Nat.reduceLT, Nat.reduceLeDiff, Nat.reduceEqDiff, Nat.reduceMod, Nat.reduceDiv, Int.reduceAdd, Int.reduceSub, Int.reduceMul, Int.reduceLT, Int.reduceLE, Int.reduceEq, Int.reduceNeg, Int.reduceToNat, reduceIte, reduceCtorEq, hb7, hfo, hkl, haty, w1, hkk, Sl.agg, Sl.len, Sl.eta, hcm, hfn, e9, e8, hb20, hb21]
                      refine ⟨(k + 1, true, now ++ [x], .slice (some ⟨b21, 0, none⟩) (now.length + 1) c21, [⟨b21, 0, .vec 31 8 c21, slC (now ++ [x])⟩]), ⟨hkl, by simpa using hnow, .inr ⟨b21, c21, by simp, by simp, by simpa using hcb21, rfl⟩, by simp only [push_cast, Nat.reduceAdd, Nat.reduceSub, Nat.reduceMul, Nat.reduceLT, Nat.reduceLeDiff, Nat.reduceEqDiff, Nat.reduceMod, Nat.reduceDiv, Int.reduceAdd, Int.reduceSub, Int.reduceMul, Int.reduceLT, Int.reduceLE, Int.reduceEq, Int.reduceNeg, Int.reduceToNat, reduceIte, reduceCtorEq, hb21]⟩, ?_, ?_⟩
                      · dsimp only; omega
                      · simp only [push_cast, Nat.reduceAdd, Nat.reduceSub, Nat.reduceMul, Nat.reduceLT, Nat.reduceLeDiff, Nat.reduceEqDiff, Nat.reduceMod, Nat.reduceDiv, Int.reduceAdd, Int.reduceSub, Int.reduceMul, Int.reduceLT, Int.reduceLE, Int.reduceEq, Int.reduceNeg, Int.reduceToNat, reduceIte, reduceCtorEq, slC_app, slC_cons, slC_nil, hb7, hfo, hfn, hb20, hb21]
                    · have hke2 : (y.key = x.key) = False := eq_false hke
                      have hkk : decide (y.key = x.key) = false := by simpa using hke
                      simp only [hke2, hdl2, Bool.not_false, Bool.not_true, Bool.true_and, Bool.false_and, Bool.and_true, Bool.and_false, Bool.true_or, Bool.false_or, Bool.or_true, decide_true, decide_false, if_true, if_false, Bool.false_eq_true, List.nil_append, List.append_nil] at hnow
                      simp only [push_cast, Nat.reduceAdd, Nat.reduceSub, Nat.reduceMul, Nat.reduceLT, Nat.reduceLeDiff, Nat.reduceEqDiff, Nat.reduceMod, Nat.reduceDiv, Int.reduceAdd, Int.reduceSub, Int.reduceMul, Int.reduceLT, Int.reduceLE, Int.reduceEq, Int.reduceNeg, Int.reduceToNat, reduceIte, reduceCtorEq, hb7, hfo, hkl, haty, w1, hkk, Sl.agg, Sl.len, Sl.eta, hcm, hfn, e9, e8]
                      intro b20 hb20
                      try simp only [push_cast, Nat.reduceAdd, Nat.reduceSub, Nat.reduceMul, Nat.reduceLT, Nat.reduceLeDiff, Nat.reduceEqDiff, Nat.reduceMod, Nat.reduceDiv, Int.reduceAdd, Int.reduceSub, Int.reduceMul, Int.reduceLT, Int.reduceLE, Int.reduceEq, Int.reduceNeg, Int.reduceToNat, reduceIte, reduceCtorEq, hb7, hfo, hkl, haty, w1, hkk, Sl.agg, Sl.len, Sl.eta, hcm, hfn, e9, e8, hb20]
                      refine ⟨by unfold two47; omega, fun b21 c21 hb21 hcb21 => ?_⟩
                      simp only [push_cast, Nat.reduceAdd, Nat.reduceSub, Nat.reduceMul, Nat.reduceLT, Nat.reduceLeDiff, Nat.reduceEqDiff, Nat.reduceMod, Nat.reduceDiv, Int.reduceAdd, Int.reduceSub, Int.reduceMul, Int.reduceLT, Int.reduceLE, Int.reduceEq, Int.reduceNeg, Int.reduceToNat, reduceIte, reduceCtorEq, hb7, hfo, hkl, haty, w1, hkk, Sl.agg, Sl.len, Sl.eta, hcm, hfn, e9, e8, hb20, hb21]
                      intro b22 hb22
                      try simp only [push_cast, Nat.reduceAdd, Nat.reduceSub, Nat.reduceMul, Nat.reduceLT, Nat.reduceLeDiff, Nat.reduceEqDiff, Nat.reduceMod, Nat.reduceDiv, Int.reduceAdd, Int.reduceSub, Int.reduceMul, Int.reduceLT, Int.reduceLE, Int.reduceEq, Int.reduceNeg, Int.reduceToNat, reduceIte, reduceCtorEq, hb7, hfo, hkl, haty, w1, hkk, Sl.agg, Sl.len, Sl.eta, hcm, hfn, e9, e8, hb20, hb21, hb22]
                      refine ⟨by unfold two47; omega, fun b23 c23 hb23 hcb23 => ?_⟩
                      simp only [push_cast, Nat.reduceAdd, Nat.reduceSub, Nat.reduceMul, Nat.reduceLT, Nat.reduceLeDiff, Nat.reduceEqDiff, Nat.reduceMod, Nat.reduceDiv, Int.reduceAdd, Int.reduceSub, Int.reduceMul, Int.reduceLT, Int.reduceLE, Int.reduceEq, Int.reduceNeg, Int.reduceToNat, reduceIte, reduceCtorEq, hb7, hfo, hkl, haty, w1, hkk, Sl.agg, Sl.len, Sl.eta, hcm, hfn, e9, e8, hb20, hb21, hb22, hb23]
                      refine ⟨(k + 1, true, now ++ [x] ++ [y], .slice (some ⟨b23, 0, none⟩) (now.length + 1 + 1) c23, [⟨b23, 0, .vec 31 8 c23, slC (now ++ [x] ++ [y])⟩]), ⟨hkl, by simpa using hnow, .inr ⟨b23, c23, by simp, by simp, by simpa using hcb23, rfl⟩, by simp only [push_cast, Nat.reduceAdd, Nat.reduceSub, Nat.reduceMul, Nat.reduceLT, Nat.reduceLeDiff, Nat.reduceEqDiff, Nat.reduceMod, Nat.reduceDiv, Int.reduceAdd, Int.reduceSub, Int.reduceMul, Int.reduceLT, Int.reduceLE, Int.reduceEq, Int.reduceNeg, Int.reduceToNat, reduceIte, reduceCtorEq, hb23]⟩, ?_, ?_⟩
                      · dsimp only; omega
                      · simp only [push_cast, Nat.reduceAdd, Nat.reduceSub, Nat.reduceMul, Nat.reduceLT, Nat.reduceLeDiff, Nat.reduceEqDiff, Nat.reduceMod, Nat.reduceDiv, Int.reduceAdd, Int.reduceSub, Int.reduceMul, Int.reduceLT, Int.reduceLE, Int.reduceEq, Int.reduceNeg, Int.reduceToNat, reduceIte, reduceCtorEq, slC_app, slC_cons, slC_nil, hb7, hfo, hfn, hb20, hb21, hb22, hb23]
                · rcases hkk0 with hke | hke
                  · have hke2 : (y.key = x.key) = True := eq_true hke
                    have hkk : decide (y.key = x.key) = true := by simpa using hke
                    simp only [hke2,  Bool.not_false, Bool.not_true, Bool.true_and, Bool.false_and, Bool.and_true, Bool.and_false, Bool.true_or, Bool.false_or, Bool.or_true, decide_true, decide_false, if_true, if_false, Bool.false_eq_true, List.nil_append, List.append_nil] at hnow
                    simp only [push_cast, Nat.reduceAdd, Nat.reduceSub, Nat.reduceMul, Nat.reduceLT, Nat.reduceLeDiff, Nat.reduceEqDiff, Nat.reduceMod, Nat.reduceDiv, Int.reduceAdd, Int.reduceSub, Int.reduceMul, Int.reduceLT, Int.reduceLE, Int.reduceEq, Int.reduceNeg, Int.reduceToNat, reduceIte, reduceCtorEq, hb7, hfo, hkl, haty, w1, hkk, Sl.agg, Sl.len, Sl.eta, hfn, e9, e8]
                    refine ⟨(k + 1, true, now, .slice (some ⟨bn, 0, none⟩) now.length cn, [⟨bn, 0, .vec 31 8 cn, slC now⟩]), ⟨hkl, by simpa using hnow, .inr ⟨bn, cn, n0, rfl, hcn, rfl⟩, by simp only [push_cast, Nat.reduceAdd, Nat.reduceSub, Nat.reduceMul, Nat.reduceLT, Nat.reduceLeDiff, Nat.reduceEqDiff, Nat.reduceMod, Nat.reduceDiv, Int.reduceAdd, Int.reduceSub, Int.reduceMul, Int.reduceLT, Int.reduceLE, Int.reduceEq, Int.reduceNeg, Int.reduceToNat, reduceIte, reduceCtorEq, hfn]⟩, ?_, ?_⟩
                    · dsimp only; omega
                    · simp only [push_cast, Nat.reduceAdd, Nat.reduceSub, Nat.reduceMul, Nat.reduceLT, Nat.reduceLeDiff, Nat.reduceEqDiff, Nat.reduceMod, Nat.reduceDiv, Int.reduceAdd, Int.reduceSub, Int.reduceMul, Int.reduceLT, Int.reduceLE, Int.reduceEq, Int.reduceNeg, Int.reduceToNat, reduceIte, reduceCtorEq, slC_app, slC_cons, slC_nil, hb7, hfo, hfn]
                  · have hke2 : (y.key = x.key) = False := eq_false hke
                    have hkk : decide (y.key = x.key) = false := by simpa using hke
                    simp only [hke2,  Bool.not_false, Bool.not_true, Bool.true_and, Bool.false_and, Bool.and_true, Bool.and_false, Bool.true_or, Bool.false_or, Bool.or_true, decide_true, decide_false, if_true, if_false, Bool.false_eq_true, List.nil_append, List.append_nil] at hnow
                    simp only [push_cast, Nat.reduceAdd, Nat.reduceSub, Nat.reduceMul, Nat.reduceLT, Nat.reduceLeDiff, Nat.reduceEqDiff, Nat.reduceMod, Nat.reduceDiv, Int.reduceAdd, Int.reduceSub, Int.reduceMul, Int.reduceLT, Int.reduceLE, Int.reduceEq, Int.reduceNeg, Int.reduceToNat, reduceIte, reduceCtorEq, hb7, hfo, hkl, haty, w1, hkk, Sl.agg, Sl.len, Sl.eta, hfn, e9, e8]
                    intro b20 hb20
                    try simp only [push_cast, Nat.reduceAdd, Nat.reduceSub, Nat.reduceMul, Nat.reduceLT, Nat.reduceLeDiff, Nat.reduceEqDiff, Nat.reduceMod, Nat.reduceDiv, Int.reduceAdd, Int.reduceSub, Int.reduceMul, Int.reduceLT, Int.reduceLE, Int.reduceEq, Int.reduceNeg, Int.reduceToNat, reduceIte, reduceCtorEq, hb7, hfo, hkl, haty, w1, hkk, Sl.agg, Sl.len, Sl.eta, hfn, e9, e8, hb20]
                    refine ⟨by unfold two47; omega, fun b21 c21 hb21 hcb21 => ?_⟩
                    simp only [push_cast, Nat.reduceAdd, Nat.reduceSub, Nat.reduceMul, Nat.reduceLT, Nat.reduceLeDiff, Nat.reduceEqDiff, Nat.reduceMod, Nat.reduceDiv, Int.reduceAdd, Int.reduceSub, Int.reduceMul, Int.reduceLT, Int.reduceLE, Int.reduceEq, Int.reduceNeg, Int.reduceToNat, reduceIte, reduceCtorEq, hb7, hfo, hkl, haty, w1, hkk, Sl.agg, Sl.len, Sl.eta, hfn, e9, e8, hb20, hb21]
                    refine ⟨(k + 1, true, now ++ [y], .slice (some ⟨b21, 0, none⟩) (now.length + 1) c21, [⟨b21, 0, .vec 31 8 c21, slC (now ++ [y])⟩]), ⟨hkl, by simpa using hnow, .inr ⟨b21, c21, by simp, by simp, by simpa using hcb21, rfl⟩, by simp only [push_cast, Nat.reduceAdd, Nat.reduceSub, Nat.reduceMul, Nat.reduceLT, Nat.reduceLeDiff, Nat.reduceEqDiff, Nat.reduceMod, Nat.reduceDiv, Int.reduceAdd, Int.reduceSub, Int.reduceMul, Int.reduceLT, Int.reduceLE, Int.reduceEq, Int.reduceNeg, Int.reduceToNat, reduceIte, reduceCtorEq, hb21]⟩, ?_, ?_⟩
                    · dsimp only; omega
                    · simp only [push_cast, Nat.reduceAdd, Nat.reduceSub, Nat.reduceMul, Nat.reduceLT, Nat.reduceLeDiff, Nat.reduceEqDiff, Nat.reduceMod, Nat.reduceDiv, Int.reduceAdd, Int.reduceSub, Int.reduceMul, Int.reduceLT, Int.reduceLE, Int.reduceEq, Int.reduceNeg, Int.reduceToNat, reduceIte, reduceCtorEq, slC_app, slC_cons, slC_nil, hb7, hfo, hfn, hb20, hb21]
            · have hke : k = out.length := by omega
              have e1 : ¬ (k : Int) < (out.length : Int) := by omega
              have e2 : ¬ k < out.length := by omega
              have w1 := wrap_i64' (show -9223372036854775808 ≤ (i : Int) + 1 ∧ (i : Int) + 1 ≤ 9223372036854775807 by omega)
              rw [hke, List.drop_length] at hnow
              rcases hon with ⟨n0, rfl, rfl⟩ | ⟨bn, cn, n0, rfl, hcn, rfl⟩
              · cases d
                · subst n0
                  have hx1 : insS x out false = [x] := by rw [← hnow]; rfl
                  simp only [push_cast, Nat.reduceAdd, Nat.reduceSub, Nat.reduceMul, Nat.reduceLT, Nat.reduceLeDiff, Nat.reduceEqDiff, Nat.reduceMod, Nat.reduceDiv, Int.reduceAdd, Int.reduceSub, Int.reduceMul, Int.reduceLT, Int.reduceLE, Int.reduceEq, Int.reduceNeg, Int.reduceToNat, reduceIte, reduceCtorEq, hb7, hfo, e2, w1, Sl.agg, Sl.len, Sl.eta]
                  intro b20 hb20
                  try simp only [push_cast, Nat.reduceAdd, Nat.reduceSub, Nat.reduceMul, Nat.reduceLT, Nat.reduceLeDiff, Nat.reduceEqDiff, Nat.reduceMod, Nat.reduceDiv, Int.reduceAdd, Int.reduceSub, Int.reduceMul, Int.reduceLT, Int.reduceLE, Int.reduceEq, Int.reduceNeg, Int.reduceToNat, reduceIte, reduceCtorEq, hb7, hfo, hb20, e2, w1, Sl.agg, Sl.len, Sl.eta]
                  refine ⟨by unfold two47; omega, fun b21 c21 hb21 hc21 => ?_⟩
                  try simp only [push_cast, Nat.reduceAdd, Nat.reduceSub, Nat.reduceMul, Nat.reduceLT, Nat.reduceLeDiff, Nat.reduceEqDiff, Nat.reduceMod, Nat.reduceDiv, Int.reduceAdd, Int.reduceSub, Int.reduceMul, Int.reduceLT, Int.reduceLE, Int.reduceEq, Int.reduceNeg, Int.reduceToNat, reduceIte, reduceCtorEq, hb7, hfo, hb20, hb21, e2, w1, Sl.agg, Sl.len, Sl.eta]
                  refine ⟨(i + 1, [x], .slice (some ⟨b21, 0, none⟩) 1 c21, [⟨b21, 0, .vec 31 8 c21, slC [x]⟩]), ⟨h20, hlt, by rw [← hx1]; exact hns, ?_, .inr ⟨b21, c21, by simp, rfl, hc21, rfl⟩, ?_⟩, ?_, ?_⟩
                  · dsimp only [List.length_singleton]; omega
                  · simp only [push_cast, Nat.reduceAdd, Nat.reduceSub, Nat.reduceMul, Nat.reduceLT, Nat.reduceLeDiff, Nat.reduceEqDiff, Nat.reduceMod, Nat.reduceDiv, Int.reduceAdd, Int.reduceSub, Int.reduceMul, Int.reduceLT, Int.reduceLE, Int.reduceEq, Int.reduceNeg, Int.reduceToNat, reduceIte, reduceCtorEq, hb21]
                  · dsimp only; omega
                  · simp only [push_cast, Nat.reduceAdd, Nat.reduceSub, Nat.reduceMul, Nat.reduceLT, Nat.reduceLeDiff, Nat.reduceEqDiff, Nat.reduceMod, Nat.reduceDiv, Int.reduceAdd, Int.reduceSub, Int.reduceMul, Int.reduceLT, Int.reduceLE, Int.reduceEq, Int.reduceNeg, Int.reduceToNat, reduceIte, reduceCtorEq, hb21, hb20, hb7, hfo]
                · subst n0
                  have := insS_ne x out
                  rw [← hnow] at this
                  simp [insS] at this
              · simp only [push_cast, Nat.reduceAdd, Nat.reduceSub, Nat.reduceMul, Nat.reduceLT, Nat.reduceLeDiff, Nat.reduceEqDiff, Nat.reduceMod, Nat.reduceDiv, Int.reduceAdd, Int.reduceSub, Int.reduceMul, Int.reduceLT, Int.reduceLE, Int.reduceEq, Int.reduceNeg, Int.reduceToNat, reduceIte, reduceCtorEq] at hfn
                have e8 : now.length * 8 + 8 = (now.length + 1) * 8 := by omega
                have e9 : (slC now).length = now.length * 8 := slC_len now
                cases d
                · have hx1 : insS x out false = now ++ [x] := by rw [← hnow]; rfl
                  have hl1 : (now ++ [x]).length ≤ i + 1 := by rw [← hx1]; have := insS_len x out false; omega
                  simp only [push_cast, Nat.reduceAdd, Nat.reduceSub, Nat.reduceMul, Nat.reduceLT, Nat.reduceLeDiff, Nat.reduceEqDiff, Nat.reduceMod, Nat.reduceDiv, Int.reduceAdd, Int.reduceSub, Int.reduceMul, Int.reduceLT, Int.reduceLE, Int.reduceEq, Int.reduceNeg, Int.reduceToNat, reduceIte, reduceCtorEq, hb7, hfo, hfn, e2, w1, e8, e9, Sl.agg, Sl.len, Sl.eta]
                  intro b20 hb20
                  try simp only [push_cast, Nat.reduceAdd, Nat.reduceSub, Nat.reduceMul, Nat.reduceLT, Nat.reduceLeDiff, Nat.reduceEqDiff, Nat.reduceMod, Nat.reduceDiv, Int.reduceAdd, Int.reduceSub, Int.reduceMul, Int.reduceLT, Int.reduceLE, Int.reduceEq, Int.reduceNeg, Int.reduceToNat, reduceIte, reduceCtorEq, hb7, hfo, hfn, hb20, e2, w1, e8, e9, Sl.agg, Sl.len, Sl.eta]
                  refine ⟨by unfold two47; omega, fun b21 c21 hb21 hc21 => ?_⟩
                  try simp only [push_cast, Nat.reduceAdd, Nat.reduceSub, Nat.reduceMul, Nat.reduceLT, Nat.reduceLeDiff, Nat.reduceEqDiff, Nat.reduceMod, Nat.reduceDiv, Int.reduceAdd, Int.reduceSub, Int.reduceMul, Int.reduceLT, Int.reduceLE, Int.reduceEq, Int.reduceNeg, Int.reduceToNat, reduceIte, reduceCtorEq, hb7, hfo, hfn, hb20, hb21, e2, w1, e8, e9, Sl.agg, Sl.len, Sl.eta]
                  refine ⟨(i + 1, now ++ [x], .slice (some ⟨b21, 0, none⟩) (now.length + 1) c21, [⟨b21, 0, .vec 31 8 c21, slC (now ++ [x])⟩]), ⟨h20, hlt, by rw [← hx1]; exact hns, hl1, .inr ⟨b21, c21, by simp, by simp, by simpa using hc21, rfl⟩, ?_⟩, ?_, ?_⟩
                  · simp only [push_cast, Nat.reduceAdd, Nat.reduceSub, Nat.reduceMul, Nat.reduceLT, Nat.reduceLeDiff, Nat.reduceEqDiff, Nat.reduceMod, Nat.reduceDiv, Int.reduceAdd, Int.reduceSub, Int.reduceMul, Int.reduceLT, Int.reduceLE, Int.reduceEq, Int.reduceNeg, Int.reduceToNat, reduceIte, reduceCtorEq, hb21]
                  · dsimp only; omega
                  · simp only [push_cast, Nat.reduceAdd, Nat.reduceSub, Nat.reduceMul, Nat.reduceLT, Nat.reduceLeDiff, Nat.reduceEqDiff, Nat.reduceMod, Nat.reduceDiv, Int.reduceAdd, Int.reduceSub, Int.reduceMul, Int.reduceLT, Int.reduceLE, Int.reduceEq, Int.reduceNeg, Int.reduceToNat, reduceIte, reduceCtorEq, slC_app, hb21, hb20, hb7, hfo, hfn]
                · have hx1 : insS x out false = now := by rw [← hnow]; simp [insS]
                  have hl1 : now.length ≤ i + 1 := by rw [← hx1]; have := insS_len x out false; omega
                  simp only [push_cast, Nat.reduceAdd, Nat.reduceSub, Nat.reduceMul, Nat.reduceLT, Nat.reduceLeDiff, Nat.reduceEqDiff, Nat.reduceMod, Nat.reduceDiv, Int.reduceAdd, Int.reduceSub, Int.reduceMul, Int.reduceLT, Int.reduceLE, Int.reduceEq, Int.reduceNeg, Int.reduceToNat, reduceIte, reduceCtorEq, hb7, hfo, hfn, e2, w1]
                  refine ⟨(i + 1, now, .slice (some ⟨bn, 0, none⟩) now.length cn, [⟨bn, 0, .vec 31 8 cn, slC now⟩]), ⟨h20, hlt, by rw [← hx1]; exact hns, hl1, .inr ⟨bn, cn, n0, rfl, hcn, rfl⟩, ?_⟩, ?_, ?_⟩
                  · simp only [push_cast, Nat.reduceAdd, Nat.reduceSub, Nat.reduceMul, Nat.reduceLT, Nat.reduceLeDiff, Nat.reduceEqDiff, Nat.reduceMod, Nat.reduceDiv, Int.reduceAdd, Int.reduceSub, Int.reduceMul, Int.reduceLT, Int.reduceLE, Int.reduceEq, Int.reduceNeg, Int.reduceToNat, reduceIte, reduceCtorEq, hfn]
                  · dsimp only; omega
                  · simp only [push_cast, Nat.reduceAdd, Nat.reduceSub, Nat.reduceMul, Nat.reduceLT, Nat.reduceLeDiff, Nat.reduceEqDiff, Nat.reduceMod, Nat.reduceDiv, Int.reduceAdd, Int.reduceSub, Int.reduceMul, Int.reduceLT, Int.reduceLE, Int.reduceEq, Int.reduceNeg, Int.reduceToNat, reduceIte, reduceCtorEq, hfn, hb7, hfo]
      · have e1 : ¬ (i : Int) < 20 := by omega
        have hout : out = slotsL noughts (raw.take 20) [] := by
          rw [← hs, List.drop_eq_nil_of_le (by simp; omega), slotsL]
        simp only [push_cast, Nat.reduceAdd, Nat.reduceSub, Nat.reduceMul, Nat.reduceLT, Nat.reduceLeDiff, Nat.reduceEqDiff, Nat.reduceMod, Nat.reduceDiv, Int.reduceAdd, Int.reduceSub, Int.reduceMul, Int.reduceLT, Int.reduceLE, Int.reduceEq, Int.reduceNeg, Int.reduceToNat, reduceIte, reduceCtorEq, hlt, e1]
        refine ⟨No, ?_, by rw [← hout]; exact ho⟩
        rw [dropM_eq (by rw [marks_append, ho.wr.2]; rfl)]
        exact List.sublist_append_left _ _
    · obtain rfl : i = raw.length := by omega
      have hout : out = slotsL noughts (raw.take 20) [] := by
        rw [← hs, List.drop_eq_nil_of_le (by simp; omega), slotsL]
      simp only [push_cast, Nat.reduceAdd, Nat.reduceSub, Nat.reduceMul, Nat.reduceLT, Nat.reduceLeDiff, Nat.reduceEqDiff, Nat.reduceMod, Nat.reduceDiv, Int.reduceAdd, Int.reduceSub, Int.reduceMul, Int.reduceLT, Int.reduceLE, Int.reduceEq, Int.reduceNeg, Int.reduceToNat, reduceIte, reduceCtorEq, Nat.lt_irrefl]
      refine ⟨No, ?_, by rw [← hout]; exact ho⟩
      rw [dropM_eq (by rw [marks_append, ho.wr.2]; rfl)]
      exact List.sublist_append_left _ _
end Go.Proofs.Ytfjenfjfiinjmaa
