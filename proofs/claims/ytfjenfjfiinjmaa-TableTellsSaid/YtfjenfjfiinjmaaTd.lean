/- Td: the iterator over two tables. -/
import Derived.Test.YtfjenfjfiinjmaaTc
set_option linter.unusedSimpArgs false
set_option linter.unusedVariables false
namespace Go.Ev
structure Bo where
  key : W
  a : W
  b : W
  inB : Bool
def Bo.cells (x : Bo) : List Value := x.key.cells ++ (x.a.cells ++ (x.b.cells ++ [.bool x.inB]))
def Bo.v (x : Bo) : Value := .agg x.cells.toArray
def joinS : List Sl → List Sl → List Bo
  | [], [] => []
  | x :: r, [] => ⟨x.key, x.val, W.zero, false⟩ :: joinS r []
  | [], y :: s => ⟨y.key, W.zero, y.val, true⟩ :: joinS [] s
  | x :: r, y :: s => if x.key.num < y.key.num then ⟨x.key, x.val, W.zero, false⟩ :: joinS r (y :: s)
    else if y.key.num < x.key.num then ⟨y.key, W.zero, y.val, true⟩ :: joinS (x :: r) s
    else ⟨y.key, x.val, y.val, true⟩ :: joinS r s
termination_by a b => a.length + b.length
theorem findE_app {b : Nat} {e : Ent} {B : Hp} : ∀ {A : Hp}, findE A b = some e → findE (A ++ B) b = some e
  | [], h => by simp [findE] at h
  | x :: r, h => by
    simp only [findE, List.cons_append] at h ⊢
    split
    · rename_i hx; rw [if_pos hx] at h; exact h
    · rename_i hx; rw [if_neg hx] at h; exact findE_app h
/-- what is left of a list of slots from the place i on, as a slice -/
def SufS (H : Hp) (l : List Sl) (b : Nat) (i : Nat) (v : Value) : Prop :=
  (i = l.length ∧ ∃ p c, v = .slice p 0 c) ∨ (i < l.length ∧ ∃ c, l.length ≤ c ∧ v = .slice (some ⟨b, i * 8, none⟩) (l.length - i) (c - i) ∧ ∃ k, findE H b = some ⟨b, 0, k, slC l⟩)
theorem subH_app (M : Hp) : ∀ (L : Hp), subH (L ++ M) L
  | [] => by cases M <;> exact trivial
  | e :: r => ⟨by simp [findE], by simpa [remE] using subH_app M r⟩
theorem subH_app2 (A B M : Hp) : subH (A ++ (B ++ M)) (A ++ B) := by rw [← List.append_assoc]; exact subH_app M _
theorem YieldV.frame2 {P : Program} {l : Nat} {args : List Value} {A H : Hp} {e : Ent} {K K' : Value → Hp → Prop} (hy : YieldV P l args H K) (hro : ∀ v H', K v H' → ∀ e ∈ H', e.wr ∨ e ∈ H) (hm : marksOf [e] = [])
    (hk : ∀ v H', K v H' → K' v (A ++ (H' ++ [e]))) : YieldV P l args (e :: (A ++ H)) K' := by
  have h := hy.frame (A := e :: A) (K' := fun v H'' => ∃ H', K v H' ∧ H'' = (e :: A) ++ H') hro (fun v H' h => ⟨H', h, rfl⟩)
  intro w0 mu w hs
  obtain ⟨fn, tmps, assign, body, h1, h2⟩ := h w0 mu w hs
  refine ⟨fn, tmps, assign, body, h1, h2.mono ?_⟩
  rintro e' w' ⟨v, _, rfl, ⟨H', hK, rfl⟩, hs', hm'⟩
  have hp : ((e :: A) ++ H').Perm (A ++ (H' ++ [e])) := by rw [← List.append_assoc]; exact (List.perm_append_singleton e (A ++ H')).symm
  refine ⟨v, _, rfl, hk v H' hK, hs'.perm hp, ?_⟩
  have e1 : ∀ L : Hp, marksOf (e :: (A ++ L)) = marksOf (A ++ L) := fun L => by
    rw [show e :: (A ++ L) = [e] ++ (A ++ L) from rfl, marks_append, hm]; rfl
  rw [← List.append_assoc, marks_append, hm, List.append_nil]
  have h3 : marksOf (e :: (A ++ H')) = marksOf (e :: (A ++ H)) := hm'
  rw [e1, e1] at h3
  rw [e1]
  exact h3
theorem SufS.next {H : Hp} {l : List Sl} {b j m c : Nat} {k : Kind} (hj : l.length - j = m + 1) (hc : l.length ≤ c) (hf : findE H b = some ⟨b, 0, k, slC l⟩) :
    SufS H l b (j + 1) (.slice (if c - j = 1 then some ⟨b, j * 8, none⟩ else some ⟨b, j * 8 + 8, none⟩) (m + 1 - 1) (c - j - 1)) := by
  cases m with
  | zero => exact .inl ⟨by omega, _, _, rfl⟩
  | succ m =>
    refine .inr ⟨by omega, c, hc, ?_, k, hf⟩
    rw [if_neg (by omega), show l.length - (j + 1) = m + 1 + 1 - 1 by omega, show c - (j + 1) = c - j - 1 by omega, show (j + 1) * 8 = j * 8 + 8 by omega]
end Go.Ev
namespace Go.Proofs.Ytfjenfjfiinjmaa
open Go Go.Ev Go.Proofs
set_option maxRecDepth 100000
set_option maxHeartbeats 4000000
theorem with1_ok {Hc : Hp} {a b : List Sl} {va vb : Value} {b2 b3 ba bb : Nat} (hn : a.length + b.length ≤ 4000) (hmc : marksOf Hc = [])
    (h2 : findE Hc b2 = some ⟨b2, 0, .cel 52, [va, .func (.func 35) #[] #[]]⟩) (h3 : findE Hc b3 = some ⟨b3, 0, .cel 52, [vb, .func (.func 35) #[] #[]]⟩)
    (ha : SufS Hc a ba 0 va) (hb : SufS Hc b bb 0 vb) :
    IterV Try.prog 36 [.pointer (some ⟨b2, 0, none⟩), .pointer (some ⟨b3, 0, none⟩)] Hc ((joinS a b).map fun x => [x.v]) := by
  refine ⟨enterO Try.func36 rfl rfl, fun X Ho I St l x0 hro hmk h0 hy => ?_⟩
  have hmarks : ∀ x, marksOf (Hc ++ Ho x) = [] := fun x => by rw [marks_append, hmc, hmk]; rfl
  have hm0 := hmarks x0
  refine callsO gB_ok Try.mix Try.pl36 Try.func36 rfl Try.ntmps36 Try.results36 rfl (by first | rfl | assumption) (Nat.le_of_ble_eq_true rfl) (by kernel_rfl) ?_
  have h2' := fun x => findE_app (B := Ho x) h2
  have h3' := fun x => findE_app (B := Ho x) h3
  simp only [push_cast, Nat.reduceAdd, Nat.reduceSub, Nat.reduceMul, Nat.reduceLT, Nat.reduceLeDiff, Nat.reduceEqDiff, Nat.reduceMod, Nat.reduceDiv, Int.reduceAdd, Int.reduceSub, Int.reduceMul, Int.reduceLT, Int.reduceLE, Int.reduceEq, Int.reduceNeg, Int.reduceToNat, reduceIte, reduceCtorEq, h2', h3']
  refine loopO gB_ok (pl := Try.pl36) Try.mix (X := Nat × Nat × Nat × Value × Value × X)
    (fun s => ([(0, .func (.yield l) #[] #[]), (1, .pointer (some ⟨b2, 0, none⟩)), (2, .pointer (some ⟨b3, 0, none⟩)), (4, s.2.2.2.1), (5, s.2.2.2.2.1)], Hc ++ Ho s.2.2.2.2.2))
    (fun s => s.1 ≤ (joinS a b).length ∧ (joinS a b).drop s.1 = joinS (a.drop s.2.1) (b.drop s.2.2.1) ∧ I s.1 s.2.2.2.2.2 ∧ SufS Hc a ba s.2.1 s.2.2.2.1 ∧ SufS Hc b bb s.2.2.1 s.2.2.2.2.1) (fun s => (a.length - s.2.1) + (b.length - s.2.2.1)) (0, 0, 0, va, vb, x0) ?_ ?_ (by kernel_rfl) ?_
  · exact ⟨Nat.zero_le _, rfl, h0, ha, hb⟩
  · simp only [push_cast, Nat.reduceAdd, Nat.reduceSub, Nat.reduceMul, Nat.reduceLT, Nat.reduceLeDiff, Nat.reduceEqDiff, Nat.reduceMod, Nat.reduceDiv, Int.reduceAdd, Int.reduceSub, Int.reduceMul, Int.reduceLT, Int.reduceLE, Int.reduceEq, Int.reduceNeg, Int.reduceToNat, reduceIte, reduceCtorEq, hm0]
  · rintro ⟨k, i, j, ua, ub, x⟩ ⟨hkl, hd, hi, hua, hub⟩
    dsimp only at hkl hd hi hua hub ⊢
    have nxt : ∀ (y : Bo) (rest : List Bo), joinS (a.drop i) (b.drop j) = y :: rest → (joinS a b)[k]? = some y ∧ (joinS a b).drop (k + 1) = rest ∧ k + 1 ≤ (joinS a b).length := fun y rest h => by
      rw [← hd] at h
      have hlt : k < (joinS a b).length := by
        rcases Nat.lt_or_ge k (joinS a b).length with h1 | h1
        · exact h1
        · rw [List.drop_eq_nil_of_le h1] at h; cases h
      rw [List.drop_eq_getElem_cons hlt] at h
      cases h
      exact ⟨List.getElem?_eq_getElem hlt, rfl, hlt⟩
    have yl : ∀ (y : Bo) (rest : List Bo) (e : Ent) (K' : Value → Hp → Prop), joinS (a.drop i) (b.drop j) = y :: rest → marksOf [e] = [] → (∀ x', I (k + 1) x' → K' (.bool true) (Hc ++ (Ho x' ++ [e]))) → (∀ x', St x' → K' (.bool false) (Hc ++ (Ho x' ++ [e]))) → YieldV Try.prog l [y.v] (e :: (Hc ++ Ho x)) K' := fun y rest e K' hj hm ht hf => by
      refine (hy k x [y.v] (by rw [List.getElem?_map, (nxt y rest hj).1]; rfl) hi).frame2 ?_ hm ?_
      · rintro v H' (⟨rfl, x', _, rfl⟩ | ⟨rfl, x', _, rfl⟩) <;> exact hro x x'
      · rintro v H' (⟨rfl, x', h, rfl⟩ | ⟨rfl, x', h, rfl⟩)
        · exact ht x' h
        · exact hf x' h
    have yf : ∀ (x' : X) (e : Ent), marksOf [e] = [] → St x' → ∃ H'_1, List.Sublist H'_1 (dropM (Hc ++ (Ho x' ++ [e]))) ∧ ∃ x, (I (List.map (fun x => [x.v]) (joinS a b)).length x ∨ St x) ∧ H'_1 = Ho x := fun x' e hm hst => by
      refine ⟨Ho x', ?_, x', .inr hst, rfl⟩
      rw [← List.append_assoc, dropM_eq (by rw [marks_append, hmarks, hm]; rfl)]
      exact (List.sublist_append_right _ _).trans (List.sublist_append_left _ _)
    have mks : ∀ (x' : X) (e : Ent), marksOf [e] = [] → marksOf (Hc ++ Ho x') = marksOf (Hc ++ (Ho x' ++ [e])) := fun x' e h => by
      rw [← List.append_assoc, marks_append (Hc ++ Ho x') [e], h, List.append_nil]
    rcases hua with ⟨rfl, pa, ca, rfl⟩ | ⟨hia, ca, hca, rfl, ka, hea⟩
    · rcases hub with ⟨rfl, pb, cb, rfl⟩ | ⟨hib, cb, hcb, rfl, kb, heb⟩
      · have hend : k = (joinS a b).length := by
          have := congrArg List.length hd
          simp [joinS] at this
          omega
        subst hend
        simp only [push_cast, Nat.reduceAdd, Nat.reduceSub, Nat.reduceMul, Nat.reduceLT, Nat.reduceLeDiff, Nat.reduceEqDiff, Nat.reduceMod, Nat.reduceDiv, Int.reduceAdd, Int.reduceSub, Int.reduceMul, Int.reduceLT, Int.reduceLE, Int.reduceEq, Int.reduceNeg, Int.reduceToNat, reduceIte, reduceCtorEq, Int.lt_irrefl]
        refine ⟨Ho x, ?_, x, .inl ?_, rfl⟩
        · rw [dropM_eq (hmarks x)]; exact List.sublist_append_right _ _
        · simpa using hi
      · obtain ⟨yb, hyb⟩ : ∃ y, b[j]? = some y := ⟨b[j], List.getElem?_eq_getElem hib⟩
        have hatb := slC_at hyb
        have hgb : findE (Hc ++ Ho x) bb = some ⟨bb, 0, kb, slC b⟩ := findE_app heb
        obtain ⟨m, hmb⟩ : ∃ m, b.length - j = m + 1 := ⟨b.length - j - 1, by omega⟩
        rw [hmb]
        have e1 : (0 : Int) < (m : Int) + 1 := by omega
        have e2 : m + 1 ≤ cb - j := by omega
        have e3 : (1 : Int) ≤ (m : Int) + 1 := by omega
        simp only [push_cast, Nat.reduceAdd, Nat.reduceSub, Nat.reduceMul, Nat.reduceLT, Nat.reduceLeDiff, Nat.reduceEqDiff, Nat.reduceMod, Nat.reduceDiv, Int.reduceAdd, Int.reduceSub, Int.reduceMul, Int.reduceLT, Int.reduceLE, Int.reduceEq, Int.reduceNeg, Int.reduceToNat, reduceIte, reduceCtorEq, e1, wrap_i64' (show -9223372036854775808 ≤ (m : Int) + 1 ∧ (m : Int) + 1 ≤ 9223372036854775807 by omega), Int.zero_add, beq_self_eq_true, Nat.zero_lt_succ]
        intro b7 hb7
        have hf7 := fresh_find hb7 hgb
        simp only [push_cast, Nat.reduceAdd, Nat.reduceSub, Nat.reduceMul, Nat.reduceLT, Nat.reduceLeDiff, Nat.reduceEqDiff, Nat.reduceMod, Nat.reduceDiv, Int.reduceAdd, Int.reduceSub, Int.reduceMul, Int.reduceLT, Int.reduceLE, Int.reduceEq, Int.reduceNeg, Int.reduceToNat, reduceIte, reduceCtorEq, hf7, hgb, hatb, e2, e3, Nat.zero_le]
        have hj : joinS (a.drop a.length) (b.drop j) = ⟨yb.key, W.zero, yb.val, true⟩ :: joinS (a.drop a.length) (b.drop (j + 1)) := by
          rw [List.drop_length, List.drop_eq_getElem_cons hib, (List.getElem?_eq_some_iff.1 hyb).2, joinS]
        try simp only [and_self]
        refine yl ⟨yb.key, W.zero, yb.val, true⟩ _ _ _ hj rfl (fun x' hx' => ?_) (fun x' hx' => ?_)
        · simp only [push_cast, Nat.reduceAdd, Nat.reduceSub, Nat.reduceMul, Nat.reduceLT, Nat.reduceLeDiff, Nat.reduceEqDiff, Nat.reduceMod, Nat.reduceDiv, Int.reduceAdd, Int.reduceSub, Int.reduceMul, Int.reduceLT, Int.reduceLE, Int.reduceEq, Int.reduceNeg, Int.reduceToNat, reduceIte, reduceCtorEq]
          refine ⟨(k + 1, a.length, j + 1, _, _, x'), ⟨(nxt _ _ hj).2.2, (nxt _ _ hj).2.1, hx', .inl ⟨rfl, pa, ca, rfl⟩, SufS.next hmb hcb heb⟩, ?_, ⟨rfl, rfl⟩, subH_app2 _ _ _, mks x' _ rfl⟩
          dsimp only; omega
        · simp only [push_cast, Nat.reduceAdd, Nat.reduceSub, Nat.reduceMul, Nat.reduceLT, Nat.reduceLeDiff, Nat.reduceEqDiff, Nat.reduceMod, Nat.reduceDiv, Int.reduceAdd, Int.reduceSub, Int.reduceMul, Int.reduceLT, Int.reduceLE, Int.reduceEq, Int.reduceNeg, Int.reduceToNat, reduceIte, reduceCtorEq]
          exact yf x' _ rfl hx'
    · obtain ⟨ya, hya⟩ : ∃ y, a[i]? = some y := ⟨a[i], List.getElem?_eq_getElem hia⟩
      have hata := slC_at hya
      have hga : findE (Hc ++ Ho x) ba = some ⟨ba, 0, ka, slC a⟩ := findE_app hea
      obtain ⟨m, hma⟩ : ∃ m, a.length - i = m + 1 := ⟨a.length - i - 1, by omega⟩
      rw [hma]
      have e2 : m + 1 ≤ ca - i := by omega
      have e3 : (1 : Int) ≤ (m : Int) + 1 := by omega
      have e5 : ((m : Int) + 1 == 0) = false := by rw [beq_eq_false_iff_ne]; omega
      rcases hub with ⟨rfl, pb, cb, rfl⟩ | ⟨hib, cb, hcb, rfl, kb, heb⟩
      · have e1 : (0 : Int) < (m : Int) + 1 := by omega
        simp only [push_cast, Nat.reduceAdd, Nat.reduceSub, Nat.reduceMul, Nat.reduceLT, Nat.reduceLeDiff, Nat.reduceEqDiff, Nat.reduceMod, Nat.reduceDiv, Int.reduceAdd, Int.reduceSub, Int.reduceMul, Int.reduceLT, Int.reduceLE, Int.reduceEq, Int.reduceNeg, Int.reduceToNat, reduceIte, reduceCtorEq, e1, e5, wrap_i64' (show -9223372036854775808 ≤ (m : Int) + 1 ∧ (m : Int) + 1 ≤ 9223372036854775807 by omega), Int.add_zero, beq_self_eq_true, Nat.zero_lt_succ]
        intro b7 hb7
        have hf7 := fresh_find hb7 hga
        simp only [push_cast, Nat.reduceAdd, Nat.reduceSub, Nat.reduceMul, Nat.reduceLT, Nat.reduceLeDiff, Nat.reduceEqDiff, Nat.reduceMod, Nat.reduceDiv, Int.reduceAdd, Int.reduceSub, Int.reduceMul, Int.reduceLT, Int.reduceLE, Int.reduceEq, Int.reduceNeg, Int.reduceToNat, reduceIte, reduceCtorEq, hf7, hga, hata, e2, e3, Nat.zero_le]
        have hj : joinS (a.drop i) (b.drop b.length) = ⟨ya.key, ya.val, W.zero, false⟩ :: joinS (a.drop (i + 1)) (b.drop b.length) := by
          rw [List.drop_length, List.drop_eq_getElem_cons hia, (List.getElem?_eq_some_iff.1 hya).2, joinS]
        try simp only [and_self]
        refine yl ⟨ya.key, ya.val, W.zero, false⟩ _ _ _ hj rfl (fun x' hx' => ?_) (fun x' hx' => ?_)
        · simp only [push_cast, Nat.reduceAdd, Nat.reduceSub, Nat.reduceMul, Nat.reduceLT, Nat.reduceLeDiff, Nat.reduceEqDiff, Nat.reduceMod, Nat.reduceDiv, Int.reduceAdd, Int.reduceSub, Int.reduceMul, Int.reduceLT, Int.reduceLE, Int.reduceEq, Int.reduceNeg, Int.reduceToNat, reduceIte, reduceCtorEq]
          refine ⟨(k + 1, i + 1, b.length, _, _, x'), ⟨(nxt _ _ hj).2.2, (nxt _ _ hj).2.1, hx', SufS.next hma hca hea, .inl ⟨rfl, pb, cb, rfl⟩⟩, ?_, ⟨rfl, rfl⟩, subH_app2 _ _ _, mks x' _ rfl⟩
          dsimp only; omega
        · simp only [push_cast, Nat.reduceAdd, Nat.reduceSub, Nat.reduceMul, Nat.reduceLT, Nat.reduceLeDiff, Nat.reduceEqDiff, Nat.reduceMod, Nat.reduceDiv, Int.reduceAdd, Int.reduceSub, Int.reduceMul, Int.reduceLT, Int.reduceLE, Int.reduceEq, Int.reduceNeg, Int.reduceToNat, reduceIte, reduceCtorEq]
          exact yf x' _ rfl hx'
      · obtain ⟨yb, hyb⟩ : ∃ y, b[j]? = some y := ⟨b[j], List.getElem?_eq_getElem hib⟩
        have hatb := slC_at hyb
        have hgb : findE (Hc ++ Ho x) bb = some ⟨bb, 0, kb, slC b⟩ := findE_app heb
        obtain ⟨q, hmb⟩ : ∃ m, b.length - j = m + 1 := ⟨b.length - j - 1, by omega⟩
        rw [hmb]
        have e1 : (0 : Int) < (m : Int) + 1 + ((q : Int) + 1) := by omega
        have e6 : (0 : Int) < (m : Int) + 1 := by omega
        have d6 : (0 : Int) < (q : Int) + 1 := by omega
        have d2 : q + 1 ≤ cb - j := by omega
        have d3 : (1 : Int) ≤ (q : Int) + 1 := by omega
        have d5 : ((q : Int) + 1 == 0) = false := by rw [beq_eq_false_iff_ne]; omega
        have hda : a.drop i = ya :: a.drop (i + 1) := by rw [List.drop_eq_getElem_cons hia, (List.getElem?_eq_some_iff.1 hya).2]
        have hdb : b.drop j = yb :: b.drop (j + 1) := by rw [List.drop_eq_getElem_cons hib, (List.getElem?_eq_some_iff.1 hyb).2]
        rcases Nat.lt_trichotomy ya.key.num yb.key.num with hlt | heq | hgt
        · have hc : ya.key.cmp yb.key = -1 := (W.cmp_lt hlt).symm
          simp only [push_cast, Nat.reduceAdd, Nat.reduceSub, Nat.reduceMul, Nat.reduceLT, Nat.reduceLeDiff, Nat.reduceEqDiff, Nat.reduceMod, Nat.reduceDiv, Int.reduceAdd, Int.reduceSub, Int.reduceMul, Int.reduceLT, Int.reduceLE, Int.reduceEq, Int.reduceNeg, Int.reduceToNat, reduceIte, reduceCtorEq, h2', h3', hga, hgb, hata, hatb, hc, e1, e5, d5, e6, d6, wrap_i64' (show -9223372036854775808 ≤ (m : Int) + 1 + ((q : Int) + 1) ∧ (m : Int) + 1 + ((q : Int) + 1) ≤ 9223372036854775807 by omega), Nat.zero_lt_succ, Nat.zero_le]
          intro b7 hb7
          have hf7 := fresh_find hb7 hga
          simp only [push_cast, Nat.reduceAdd, Nat.reduceSub, Nat.reduceMul, Nat.reduceLT, Nat.reduceLeDiff, Nat.reduceEqDiff, Nat.reduceMod, Nat.reduceDiv, Int.reduceAdd, Int.reduceSub, Int.reduceMul, Int.reduceLT, Int.reduceLE, Int.reduceEq, Int.reduceNeg, Int.reduceToNat, reduceIte, reduceCtorEq, hf7, hga, hata, e2, e3, Nat.zero_le]
          have hj : joinS (a.drop i) (b.drop j) = ⟨ya.key, ya.val, W.zero, false⟩ :: joinS (a.drop (i + 1)) (b.drop j) := by
            rw [hda, hdb, joinS, if_pos hlt]
          try simp only [and_self]
          refine yl ⟨ya.key, ya.val, W.zero, false⟩ _ _ _ hj rfl (fun x' hx' => ?_) (fun x' hx' => ?_)
          · simp only [push_cast, Nat.reduceAdd, Nat.reduceSub, Nat.reduceMul, Nat.reduceLT, Nat.reduceLeDiff, Nat.reduceEqDiff, Nat.reduceMod, Nat.reduceDiv, Int.reduceAdd, Int.reduceSub, Int.reduceMul, Int.reduceLT, Int.reduceLE, Int.reduceEq, Int.reduceNeg, Int.reduceToNat, reduceIte, reduceCtorEq]
            refine ⟨(k + 1, i + 1, j, _, _, x'), ⟨(nxt _ _ hj).2.2, (nxt _ _ hj).2.1, hx', SufS.next hma hca hea, .inr ⟨hib, cb, hcb, by rw [hmb], kb, heb⟩⟩, ?_, ⟨rfl, rfl⟩, subH_app2 _ _ _, mks x' _ rfl⟩
            dsimp only; omega
          · simp only [push_cast, Nat.reduceAdd, Nat.reduceSub, Nat.reduceMul, Nat.reduceLT, Nat.reduceLeDiff, Nat.reduceEqDiff, Nat.reduceMod, Nat.reduceDiv, Int.reduceAdd, Int.reduceSub, Int.reduceMul, Int.reduceLT, Int.reduceLE, Int.reduceEq, Int.reduceNeg, Int.reduceToNat, reduceIte, reduceCtorEq]
            exact yf x' _ rfl hx'
        · have hc : ya.key.cmp yb.key = 0 := (W.cmp_eq heq).symm
          simp only [push_cast, Nat.reduceAdd, Nat.reduceSub, Nat.reduceMul, Nat.reduceLT, Nat.reduceLeDiff, Nat.reduceEqDiff, Nat.reduceMod, Nat.reduceDiv, Int.reduceAdd, Int.reduceSub, Int.reduceMul, Int.reduceLT, Int.reduceLE, Int.reduceEq, Int.reduceNeg, Int.reduceToNat, reduceIte, reduceCtorEq, h2', h3', hga, hgb, hata, hatb, hc, e1, e5, d5, e6, d6, wrap_i64' (show -9223372036854775808 ≤ (m : Int) + 1 + ((q : Int) + 1) ∧ (m : Int) + 1 + ((q : Int) + 1) ≤ 9223372036854775807 by omega), Nat.zero_lt_succ, Nat.zero_le]
          intro b7 hb7
          have hf7 := fresh_find hb7 hga
          have hg7 := fresh_find hb7 hgb
          simp only [push_cast, Nat.reduceAdd, Nat.reduceSub, Nat.reduceMul, Nat.reduceLT, Nat.reduceLeDiff, Nat.reduceEqDiff, Nat.reduceMod, Nat.reduceDiv, Int.reduceAdd, Int.reduceSub, Int.reduceMul, Int.reduceLT, Int.reduceLE, Int.reduceEq, Int.reduceNeg, Int.reduceToNat, reduceIte, reduceCtorEq, hf7, hg7, hga, hata, hgb, hatb, e2, e3, d2, d3, Nat.zero_le]
          have hj : joinS (a.drop i) (b.drop j) = ⟨yb.key, ya.val, yb.val, true⟩ :: joinS (a.drop (i + 1)) (b.drop (j + 1)) := by
            rw [hda, hdb, joinS, if_neg (by omega), if_neg (by omega)]
          try simp only [and_self]
          refine yl ⟨yb.key, ya.val, yb.val, true⟩ _ _ _ hj rfl (fun x' hx' => ?_) (fun x' hx' => ?_)
          · simp only [push_cast, Nat.reduceAdd, Nat.reduceSub, Nat.reduceMul, Nat.reduceLT, Nat.reduceLeDiff, Nat.reduceEqDiff, Nat.reduceMod, Nat.reduceDiv, Int.reduceAdd, Int.reduceSub, Int.reduceMul, Int.reduceLT, Int.reduceLE, Int.reduceEq, Int.reduceNeg, Int.reduceToNat, reduceIte, reduceCtorEq]
            refine ⟨(k + 1, i + 1, j + 1, _, _, x'), ⟨(nxt _ _ hj).2.2, (nxt _ _ hj).2.1, hx', SufS.next hma hca hea, SufS.next hmb hcb heb⟩, ?_, ⟨rfl, rfl⟩, subH_app2 _ _ _, mks x' _ rfl⟩
            dsimp only; omega
          · simp only [push_cast, Nat.reduceAdd, Nat.reduceSub, Nat.reduceMul, Nat.reduceLT, Nat.reduceLeDiff, Nat.reduceEqDiff, Nat.reduceMod, Nat.reduceDiv, Int.reduceAdd, Int.reduceSub, Int.reduceMul, Int.reduceLT, Int.reduceLE, Int.reduceEq, Int.reduceNeg, Int.reduceToNat, reduceIte, reduceCtorEq]
            exact yf x' _ rfl hx'
        · have hc : ya.key.cmp yb.key = 1 := (W.cmp_gt hgt).symm
          simp only [push_cast, Nat.reduceAdd, Nat.reduceSub, Nat.reduceMul, Nat.reduceLT, Nat.reduceLeDiff, Nat.reduceEqDiff, Nat.reduceMod, Nat.reduceDiv, Int.reduceAdd, Int.reduceSub, Int.reduceMul, Int.reduceLT, Int.reduceLE, Int.reduceEq, Int.reduceNeg, Int.reduceToNat, reduceIte, reduceCtorEq, h2', h3', hga, hgb, hata, hatb, hc, e1, e5, d5, e6, d6, wrap_i64' (show -9223372036854775808 ≤ (m : Int) + 1 + ((q : Int) + 1) ∧ (m : Int) + 1 + ((q : Int) + 1) ≤ 9223372036854775807 by omega), Nat.zero_lt_succ, Nat.zero_le]
          intro b7 hb7
          have hg7 := fresh_find hb7 hgb
          simp only [push_cast, Nat.reduceAdd, Nat.reduceSub, Nat.reduceMul, Nat.reduceLT, Nat.reduceLeDiff, Nat.reduceEqDiff, Nat.reduceMod, Nat.reduceDiv, Int.reduceAdd, Int.reduceSub, Int.reduceMul, Int.reduceLT, Int.reduceLE, Int.reduceEq, Int.reduceNeg, Int.reduceToNat, reduceIte, reduceCtorEq, hg7, hgb, hatb, d2, d3, Nat.zero_le]
          have hj : joinS (a.drop i) (b.drop j) = ⟨yb.key, W.zero, yb.val, true⟩ :: joinS (a.drop i) (b.drop (j + 1)) := by
            rw [hda, hdb, joinS, if_neg (by omega), if_pos hgt]
          try simp only [and_self]
          refine yl ⟨yb.key, W.zero, yb.val, true⟩ _ _ _ hj rfl (fun x' hx' => ?_) (fun x' hx' => ?_)
          · simp only [push_cast, Nat.reduceAdd, Nat.reduceSub, Nat.reduceMul, Nat.reduceLT, Nat.reduceLeDiff, Nat.reduceEqDiff, Nat.reduceMod, Nat.reduceDiv, Int.reduceAdd, Int.reduceSub, Int.reduceMul, Int.reduceLT, Int.reduceLE, Int.reduceEq, Int.reduceNeg, Int.reduceToNat, reduceIte, reduceCtorEq]
            refine ⟨(k + 1, i, j + 1, _, _, x'), ⟨(nxt _ _ hj).2.2, (nxt _ _ hj).2.1, hx', .inr ⟨hia, ca, hca, by rw [hma], ka, hea⟩, SufS.next hmb hcb heb⟩, ?_, ⟨rfl, rfl⟩, subH_app2 _ _ _, mks x' _ rfl⟩
            dsimp only; omega
          · simp only [push_cast, Nat.reduceAdd, Nat.reduceSub, Nat.reduceMul, Nat.reduceLT, Nat.reduceLeDiff, Nat.reduceEqDiff, Nat.reduceMod, Nat.reduceDiv, Int.reduceAdd, Int.reduceSub, Int.reduceMul, Int.reduceLT, Int.reduceLE, Int.reduceEq, Int.reduceNeg, Int.reduceToNat, reduceIte, reduceCtorEq]
            exact yf x' _ rfl hx'
end Go.Proofs.Ytfjenfjfiinjmaa
