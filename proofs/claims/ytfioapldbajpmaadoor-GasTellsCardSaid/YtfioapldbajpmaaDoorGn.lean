/- Gn: GasStores. -/
import Derived.Test.YtfioapldbajpmaaDoorGj
set_option linter.unusedSimpArgs false
set_option linter.unusedVariables false
namespace Go.Ev
/-- what has been paid, less what was given back, beyond 100 each time, is this -/
def potB (oc o0 c0 : Bool) : Int := if oc then 0 else if o0 then 19900 else if c0 then -2000 else 2800
/-- at least so much was given back -/
def lowB (oc o0 c0 : Bool) : Int := if oc || o0 then 0 else if c0 then 4800 else 0
def okB (oc cv ov o0 c0 v0 : Bool) : Bool := (!oc || ((o0 == c0) && (cv == ov))) && (!cv || ((c0 == v0) && (oc == ov))) && (!ov || ((o0 == v0) && (oc == cv))) && (!o0 || ((c0 == oc) && (v0 == ov))) && (!c0 || ((o0 == oc) && (v0 == cv))) && (!v0 || ((o0 == ov) && (c0 == cv)))
def goodB (oc cv ov o0 c0 v0 w : Bool) : Bool := decide ((storeB oc cv ov o0 c0 v0 w).1 - (storeB oc cv ov o0 c0 v0 w).2 = 100 + (if w then 0 else 2100) + potB ov o0 v0 - potB oc o0 c0) &&
  (decide (lowB ov o0 v0 ≤ lowB oc o0 c0 + (storeB oc cv ov o0 c0 v0 w).2) && (decide (100 ≤ (storeB oc cv ov o0 c0 v0 w).1) && (decide ((storeB oc cv ov o0 c0 v0 w).1 ≤ 22100) && (decide (-4800 ≤ (storeB oc cv ov o0 c0 v0 w).2) && decide ((storeB oc cv ov o0 c0 v0 w).2 ≤ 19900)))))
theorem good_ok : ∀ oc cv ov o0 c0 v0 w : Bool, (!okB oc cv ov o0 c0 v0 || goodB oc cv ov o0 c0 v0 w) = true := by decide
theorem storeB_step (oc cv ov o0 c0 v0 w : Bool) (h1 : oc = true → o0 = c0 ∧ cv = ov) (h2 : cv = true → c0 = v0 ∧ oc = ov) (h3 : ov = true → o0 = v0 ∧ oc = cv) (h4 : o0 = true → c0 = oc ∧ v0 = ov) (h5 : c0 = true → o0 = oc ∧ v0 = cv) (h6 : v0 = true → o0 = ov ∧ c0 = cv) :
    ((storeB oc cv ov o0 c0 v0 w).1 - (storeB oc cv ov o0 c0 v0 w).2 = 100 + (if w then 0 else 2100) + potB ov o0 v0 - potB oc o0 c0) ∧
    (lowB ov o0 v0 ≤ lowB oc o0 c0 + (storeB oc cv ov o0 c0 v0 w).2) ∧ 100 ≤ (storeB oc cv ov o0 c0 v0 w).1 ∧ (storeB oc cv ov o0 c0 v0 w).1 ≤ 22100 ∧ -4800 ≤ (storeB oc cv ov o0 c0 v0 w).2 ∧ (storeB oc cv ov o0 c0 v0 w).2 ≤ 19900 := by
  have key : ∀ a b c : Bool, ∀ x y z : Bool, (a = true → b = c ∧ x = y) → (!a || ((b == c) && (x == y))) = true := by
    intro a b c x y z h
    cases a
    · rfl
    · obtain ⟨rfl, rfl⟩ := h rfl; simp
  have hok : okB oc cv ov o0 c0 v0 = true := by
    unfold okB
    rw [key oc o0 c0 cv ov true h1, key cv c0 v0 oc ov true h2, key ov o0 v0 oc cv true h3, key o0 c0 oc v0 ov true h4, key c0 o0 oc v0 cv true h5, key v0 o0 ov c0 cv true h6]; rfl
  have := good_ok oc cv ov o0 c0 v0 w
  rw [hok] at this
  have hg : goodB oc cv ov o0 c0 v0 w = true := this
  unfold goodB at hg
  simpa only [Bool.and_eq_true, decide_eq_true_eq] using hg
def potW (o c : W) : Int := potB (decide (o = c)) (decide (o = W.zero)) (decide (c = W.zero))
def lowW (o c : W) : Int := lowB (decide (o = c)) (decide (o = W.zero)) (decide (c = W.zero))
theorem storeP_step (o c v : W) (w : Bool) :
    ((storeP o c v w).1 - (storeP o c v w).2 = 100 + (if w then 0 else 2100) + potW o v - potW o c) ∧ (lowW o v ≤ lowW o c + (storeP o c v w).2) ∧ 100 ≤ (storeP o c v w).1 ∧ (storeP o c v w).1 ≤ 22100 ∧ -4800 ≤ (storeP o c v w).2 ∧ (storeP o c v w).2 ≤ 19900 := by
  rw [storeP_eq]
  unfold potW lowW
  refine storeB_step _ _ _ _ _ _ w ?_ ?_ ?_ ?_ ?_ ?_
  · intro h; have h := of_decide_eq_true h; subst h; exact ⟨rfl, rfl⟩
  · intro h; have h := of_decide_eq_true h; subst h; exact ⟨rfl, rfl⟩
  · intro h; have h := of_decide_eq_true h; subst h; exact ⟨rfl, decide_eq_decide.2 eq_comm⟩
  · intro h; have h := of_decide_eq_true h; subst h; exact ⟨decide_eq_decide.2 eq_comm, decide_eq_decide.2 eq_comm⟩
  · intro h; have h := of_decide_eq_true h; subst h; exact ⟨rfl, decide_eq_decide.2 eq_comm⟩
  · intro h; have h := of_decide_eq_true h; subst h; exact ⟨rfl, rfl⟩
theorem potW_self (o : W) : potW o o = 0 := by unfold potW potB; rw [decide_eq_true rfl]; rfl
theorem lowW_self (o : W) : lowW o o = 0 := by unfold lowW lowB; rw [decide_eq_true rfl]; rfl
theorem lowW_nn (o c : W) : 0 ≤ lowW o c := by 
  unfold lowW lowB
  split
  · omega
  · split <;> omega
theorem potW_in (o c : W) : -2000 ≤ potW o c ∧ potW o c ≤ 19900 := by
  unfold potW potB
  split
  · omega
  · split
    · omega
    · split <;> omega
def intC (x : Int) : List Value := [.int .i64 x]
theorem intC_len (x : Int) : (intC x).length = 1 := rfl
structure StX where
  i : Nat
  now : W
  P : Int
  B : Int
/-- what holds after i rounds -/
structure StI (o : W) (warm : Bool) (m : Nat) (s : StX) : Prop where
  le : s.i ≤ m + 1
  low : lowW o s.now ≤ s.B
  sum : s.P - s.B = 100 * (s.i : Int) + (if warm = true ∨ s.i = 0 then 0 else 2100) + potW o s.now
  p0 : 0 ≤ s.P
  p1 : s.P ≤ 22100 * (s.i : Int)
  b1 : s.B ≤ 19900 * (s.i : Int)
  last : s.i = m + 1 → s.now = o
theorem StI.step {o : W} {warm : Bool} {m : Nat} {s : StX} (h : StI o warm m s) (hi : s.i ≤ m) (v : W) (hv : s.i = m → v = o) (w : Bool) (hw : w = (warm || decide (0 < s.i))) :
    StI o warm m ⟨s.i + 1, v, s.P + (storeP o s.now v w).1, s.B + (storeP o s.now v w).2⟩ := by
  obtain ⟨h1, h2, h3, h4, h5, h6⟩ := storeP_step o s.now v w
  obtain ⟨k1, k2, k3, k4, k5, k6, k7⟩ := h
  obtain ⟨i, now, P, B⟩ := s
  dsimp only at *
  generalize storeP o now v w = S at *
  have e : (if w = true then (0 : Int) else 2100) + (if warm = true ∨ i = 0 then (0 : Int) else 2100) = (if warm = true ∨ i + 1 = 0 then (0 : Int) else 2100) := by
    rw [hw]
    cases warm
    · rcases Nat.eq_zero_or_pos i with rfl | hp
      · rfl
      · have : ¬ i = 0 := by omega
        simp [hp, this]
    · simp
  refine ⟨by dsimp only; omega, by dsimp only; omega, ?_, by dsimp only; omega, by dsimp only; omega, by dsimp only; omega, fun h => hv (by dsimp only at h; omega)⟩
  dsimp only
  rw [← e]
  have : ((i + 1 : Nat) : Int) = (i : Int) + 1 := rfl
  rw [this]
  generalize (if w = true then (0 : Int) else 2100) = A at *
  generalize (if warm = true ∨ i = 0 then (0 : Int) else 2100) = C at *
  omega
end Go.Ev
namespace Go.Proofs.YtfioapldbajpmaaDoor
open Go Go.Ev Go.Proofs
set_option maxRecDepth 100000
set_option maxHeartbeats 4000000
def plGS : Plans := fun i => if i = 2 then [(0, 9)] else if i = 3 then [(0, 9)] else if i = 4 then [(0, 9)] else if i = 10 then [(0, 9)] else if i = 11 then [(0, 9)] else if i = 20 then [(0, 9)] else Tryd.pl4 i
attribute [push_cast] plGS
theorem gasStores_ok {M : Hp} {l : List Int} {vl : Value} (orig : Int) (warm : Bool) (ho : i64In orig) (hv : LiR intC 1 M l vl) (hm : marksOf M = []) (hb : ∀ x ∈ l, i64In x) :
    CallsV Tryd.prog 4 [.int .i64 orig, vl, .bool warm] M (Ret0 (.bool true)) := by
  obtain ⟨p, c, rfl, hl⟩ := hv.open intC_len (by decide)
  have j1 := i64B_in ho
  have j4 : i64B 4 = true := i64B_in (by decide)
  have q4 : posB 4 = true := posB_in (by decide)
  have hp := pickN_lt orig (n := 4) (by decide)
  obtain ⟨k0, hk0⟩ : ∃ k, k = pickN orig 4 := ⟨_, rfl⟩
  rw [← hk0] at hp
  have jk : i64B (k0 : Int) = true := i64B_in (by unfold i64In; omega)
  obtain ⟨o, hoo⟩ : ∃ o, o = ofW (k0 : Int) := ⟨_, rfl⟩
  obtain ⟨m, hmm⟩ : ∃ m, m = min l.length 20 := ⟨_, rfl⟩
  refine callsO gQ2_ok Tryd.mix plGS Tryd.func4 rfl Tryd.ntmps4 Tryd.results4 rfl (by first | rfl | assumption) (Nat.le_of_ble_eq_true rfl) (by kernel_rfl) ?_
  simp only [push_cast, Nat.reduceAdd, Nat.reduceSub, Nat.reduceMul, Nat.reduceLT, Nat.reduceLeDiff, Nat.reduceEqDiff, Nat.reduceMod, Nat.reduceDiv, Int.reduceAdd, Int.reduceSub, Int.reduceMul, Int.reduceLT, Int.reduceLE, Int.reduceEq, Int.reduceNeg, Int.reduceToNat, reduceIte, reduceCtorEq, Int.reduceBEq, Int.reduceBNe, Bool.true_beq, Bool.false_beq, Bool.true_bne, Bool.false_bne, Bool.not_true, Bool.not_false]
  refine regO gQ2_ok ?_
  simp only [push_cast, Nat.reduceAdd, Nat.reduceSub, Nat.reduceMul, Nat.reduceLT, Nat.reduceLeDiff, Nat.reduceEqDiff, Nat.reduceMod, Nat.reduceDiv, Int.reduceAdd, Int.reduceSub, Int.reduceMul, Int.reduceLT, Int.reduceLE, Int.reduceEq, Int.reduceNeg, Int.reduceToNat, reduceIte, reduceCtorEq, Int.reduceBEq, Int.reduceBNe, Bool.true_beq, Bool.false_beq, Bool.true_bne, Bool.false_bne, Bool.not_true, Bool.not_false, j1, j4, q4, ← hk0, jk, ← hoo]
  intro b8 hb8
  refine regO gQ2_ok ?_
  simp only [push_cast, Nat.reduceAdd, Nat.reduceSub, Nat.reduceMul, Nat.reduceLT, Nat.reduceLeDiff, Nat.reduceEqDiff, Nat.reduceMod, Nat.reduceDiv, Int.reduceAdd, Int.reduceSub, Int.reduceMul, Int.reduceLT, Int.reduceLE, Int.reduceEq, Int.reduceNeg, Int.reduceToNat, reduceIte, reduceCtorEq, Int.reduceBEq, Int.reduceBNe, Bool.true_beq, Bool.false_beq, Bool.true_bne, Bool.false_bne, Bool.not_true, Bool.not_false, hb8]
  intro b9 hb9
  refine regO gQ2_ok ?_
  simp only [push_cast, Nat.reduceAdd, Nat.reduceSub, Nat.reduceMul, Nat.reduceLT, Nat.reduceLeDiff, Nat.reduceEqDiff, Nat.reduceMod, Nat.reduceDiv, Int.reduceAdd, Int.reduceSub, Int.reduceMul, Int.reduceLT, Int.reduceLE, Int.reduceEq, Int.reduceNeg, Int.reduceToNat, reduceIte, reduceCtorEq, Int.reduceBEq, Int.reduceBNe, Bool.true_beq, Bool.false_beq, Bool.true_bne, Bool.false_bne, Bool.not_true, Bool.not_false, hb8, hb9]
  refine loopO gQ2_ok (pl := plGS) Tryd.mix (X := StX)
    (fun s => ([(0, .int .i64 orig), (1, .slice p l.length c), (2, .bool warm), (7, .bool true), (8, .pointer (some ⟨b8, 0, none⟩)), (9, .pointer (some ⟨b9, 0, none⟩)), (10, .int .i64 s.P), (11, .int .i64 s.B), (12, .int .i64 s.i), (13, .int .i64 s.i)],
      ⟨b9, 0, .cel 24, s.now.cells⟩ :: ⟨b8, 0, .cel 24, o.cells⟩ :: M))
    (fun s => StI o warm m s) (fun s => m + 1 - s.i) ⟨0, o, 0, 0⟩ ?_ ?_ (by kernel_rfl) ?_
  · exact ⟨Nat.zero_le _, by rw [lowW_self]; exact Int.le_refl _, by rw [potW_self, if_pos (.inr rfl)]; rfl, Int.le_refl _, Int.le_refl _, Int.le_refl _, fun _ => rfl⟩
  · simp only [push_cast, Nat.reduceAdd, Nat.reduceSub, Nat.reduceMul, Nat.reduceLT, Nat.reduceLeDiff, Nat.reduceEqDiff, Nat.reduceMod, Nat.reduceDiv, Int.reduceAdd, Int.reduceSub, Int.reduceMul, Int.reduceLT, Int.reduceLE, Int.reduceEq, Int.reduceNeg, Int.reduceToNat, reduceIte, reduceCtorEq, Int.reduceBEq, Int.reduceBNe, Bool.true_beq, Bool.false_beq, Bool.true_bne, Bool.false_bne, Bool.not_true, Bool.not_false, hb8, hb9]
    exact subH_self _
  · intro s hs
    obtain ⟨i, now, P, B⟩ := s
    have hi := hs.le
    dsimp only at hi ⊢
    rcases Nat.lt_or_ge m i with hgt | hle
    · have him : i = m + 1 := by omega
      have hno := hs.last him
      dsimp only at hno
      subst hno
      have hsum := hs.sum
      have hp1 := hs.p1
      have hp0 := hs.p0
      have hb1 := hs.b1
      have hlo := hs.low
      rw [lowW_self] at hlo
      rw [potW_self] at hsum
      dsimp only at hp1 hp0 hb1 hlo hsum
      have nm : ¬ i = 0 := by omega
      rcases Nat.lt_or_ge l.length i with h2 | h2
      · have i1 : ¬ (i : Int) ≤ (l.length : Int) := by omega
        have i1' : ¬ i ≤ l.length := by omega
        simp only [push_cast, Nat.reduceAdd, Nat.reduceSub, Nat.reduceMul, Nat.reduceLT, Nat.reduceLeDiff, Nat.reduceEqDiff, Nat.reduceMod, Nat.reduceDiv, Int.reduceAdd, Int.reduceSub, Int.reduceMul, Int.reduceLT, Int.reduceLE, Int.reduceEq, Int.reduceNeg, Int.reduceToNat, reduceIte, reduceCtorEq, Int.reduceBEq, Int.reduceBNe, Bool.true_beq, Bool.false_beq, Bool.true_bne, Bool.false_bne, Bool.not_true, Bool.not_false, hb8, hb9, i1, i1']
        refine regO gQ2_ok ?_
        cases warm
        · rw [if_neg (by simp [nm])] at hsum
          have z1 : (P - B == 100 * (i : Int) + 2100) = true := beq_iff_eq.2 (by omega)
          simp only [push_cast, Nat.reduceAdd, Nat.reduceSub, Nat.reduceMul, Nat.reduceLT, Nat.reduceLeDiff, Nat.reduceEqDiff, Nat.reduceMod, Nat.reduceDiv, Int.reduceAdd, Int.reduceSub, Int.reduceMul, Int.reduceLT, Int.reduceLE, Int.reduceEq, Int.reduceNeg, Int.reduceToNat, reduceIte, reduceCtorEq, Int.reduceBEq, Int.reduceBNe, Bool.true_beq, Bool.false_beq, Bool.true_bne, Bool.false_bne, Bool.not_true, Bool.not_false, hb8, hb9, wrap_i64' (show -9223372036854775808 ≤ 100 * (i : Int) ∧ 100 * (i : Int) ≤ 9223372036854775807 by omega), wrap_i64' (show -9223372036854775808 ≤ 100 * (i : Int) + 2100 ∧ 100 * (i : Int) + 2100 ≤ 9223372036854775807 by omega), wrap_i64' (show -9223372036854775808 ≤ P - B ∧ P - B ≤ 9223372036854775807 by omega), z1, decide_true]
        · rw [if_pos (.inl rfl)] at hsum
          have z1 : (P - B == 100 * (i : Int)) = true := beq_iff_eq.2 (by omega)
          simp only [push_cast, Nat.reduceAdd, Nat.reduceSub, Nat.reduceMul, Nat.reduceLT, Nat.reduceLeDiff, Nat.reduceEqDiff, Nat.reduceMod, Nat.reduceDiv, Int.reduceAdd, Int.reduceSub, Int.reduceMul, Int.reduceLT, Int.reduceLE, Int.reduceEq, Int.reduceNeg, Int.reduceToNat, reduceIte, reduceCtorEq, Int.reduceBEq, Int.reduceBNe, Bool.true_beq, Bool.false_beq, Bool.true_bne, Bool.false_bne, Bool.not_true, Bool.not_false, hb8, hb9, wrap_i64' (show -9223372036854775808 ≤ 100 * (i : Int) ∧ 100 * (i : Int) ≤ 9223372036854775807 by omega), wrap_i64' (show -9223372036854775808 ≤ P - B ∧ P - B ≤ 9223372036854775807 by omega), z1, decide_true]
      · have i1 : (i : Int) ≤ (l.length : Int) := by omega
        have i2 : ¬ (i : Int) ≤ 20 := by omega
        simp only [push_cast, Nat.reduceAdd, Nat.reduceSub, Nat.reduceMul, Nat.reduceLT, Nat.reduceLeDiff, Nat.reduceEqDiff, Nat.reduceMod, Nat.reduceDiv, Int.reduceAdd, Int.reduceSub, Int.reduceMul, Int.reduceLT, Int.reduceLE, Int.reduceEq, Int.reduceNeg, Int.reduceToNat, reduceIte, reduceCtorEq, Int.reduceBEq, Int.reduceBNe, Bool.true_beq, Bool.false_beq, Bool.true_bne, Bool.false_bne, Bool.not_true, Bool.not_false, hb8, hb9, i1, h2, i2]
        refine regO gQ2_ok ?_
        cases warm
        · rw [if_neg (by simp [nm])] at hsum
          have z1 : (P - B == 100 * (i : Int) + 2100) = true := beq_iff_eq.2 (by omega)
          simp only [push_cast, Nat.reduceAdd, Nat.reduceSub, Nat.reduceMul, Nat.reduceLT, Nat.reduceLeDiff, Nat.reduceEqDiff, Nat.reduceMod, Nat.reduceDiv, Int.reduceAdd, Int.reduceSub, Int.reduceMul, Int.reduceLT, Int.reduceLE, Int.reduceEq, Int.reduceNeg, Int.reduceToNat, reduceIte, reduceCtorEq, Int.reduceBEq, Int.reduceBNe, Bool.true_beq, Bool.false_beq, Bool.true_bne, Bool.false_bne, Bool.not_true, Bool.not_false, hb8, hb9, wrap_i64' (show -9223372036854775808 ≤ 100 * (i : Int) ∧ 100 * (i : Int) ≤ 9223372036854775807 by omega), wrap_i64' (show -9223372036854775808 ≤ 100 * (i : Int) + 2100 ∧ 100 * (i : Int) + 2100 ≤ 9223372036854775807 by omega), wrap_i64' (show -9223372036854775808 ≤ P - B ∧ P - B ≤ 9223372036854775807 by omega), z1, decide_true]
        · rw [if_pos (.inl rfl)] at hsum
          have z1 : (P - B == 100 * (i : Int)) = true := beq_iff_eq.2 (by omega)
          simp only [push_cast, Nat.reduceAdd, Nat.reduceSub, Nat.reduceMul, Nat.reduceLT, Nat.reduceLeDiff, Nat.reduceEqDiff, Nat.reduceMod, Nat.reduceDiv, Int.reduceAdd, Int.reduceSub, Int.reduceMul, Int.reduceLT, Int.reduceLE, Int.reduceEq, Int.reduceNeg, Int.reduceToNat, reduceIte, reduceCtorEq, Int.reduceBEq, Int.reduceBNe, Bool.true_beq, Bool.false_beq, Bool.true_bne, Bool.false_bne, Bool.not_true, Bool.not_false, hb8, hb9, wrap_i64' (show -9223372036854775808 ≤ 100 * (i : Int) ∧ 100 * (i : Int) ≤ 9223372036854775807 by omega), wrap_i64' (show -9223372036854775808 ≤ P - B ∧ P - B ≤ 9223372036854775807 by omega), z1, decide_true]
    · have hp1 := hs.p1
      have hp0 := hs.p0
      have hb1 := hs.b1
      have hlo := hs.low
      have hln := lowW_nn o now
      dsimp only at hp1 hp0 hb1 hlo
      have i1 : (i : Int) ≤ (l.length : Int) := by omega
      have i1' : i ≤ l.length := by omega
      have i2 : (i : Int) ≤ 20 := by omega
      simp only [push_cast, Nat.reduceAdd, Nat.reduceSub, Nat.reduceMul, Nat.reduceLT, Nat.reduceLeDiff, Nat.reduceEqDiff, Nat.reduceMod, Nat.reduceDiv, Int.reduceAdd, Int.reduceSub, Int.reduceMul, Int.reduceLT, Int.reduceLE, Int.reduceEq, Int.reduceNeg, Int.reduceToNat, reduceIte, reduceCtorEq, Int.reduceBEq, Int.reduceBNe, Bool.true_beq, Bool.false_beq, Bool.true_bne, Bool.false_bne, Bool.not_true, Bool.not_false, hb8, hb9, i1, i1', i2]
      refine regO gQ2_ok ?_
      simp only [push_cast, Nat.reduceAdd, Nat.reduceSub, Nat.reduceMul, Nat.reduceLT, Nat.reduceLeDiff, Nat.reduceEqDiff, Nat.reduceMod, Nat.reduceDiv, Int.reduceAdd, Int.reduceSub, Int.reduceMul, Int.reduceLT, Int.reduceLE, Int.reduceEq, Int.reduceNeg, Int.reduceToNat, reduceIte, reduceCtorEq, Int.reduceBEq, Int.reduceBNe, Bool.true_beq, Bool.false_beq, Bool.true_bne, Bool.false_bne, Bool.not_true, Bool.not_false, hb8, hb9]
      intro b14 hb14
      refine regO gQ2_ok ?_
      rcases Nat.lt_or_ge i m with hlt | hge
      · have hil : i < l.length := by omega
        obtain ⟨x, hx⟩ : ∃ x, l[i]? = some x := ⟨l[i], List.getElem?_eq_getElem hil⟩
        obtain h0 | ⟨b, f, d, kd, cs, rfl, he, hat, -, -⟩ := hl
        · rw [h0] at hil; exact absurd hil (Nat.not_lt_zero _)
        obtain ⟨a1, a2⟩ := hat i x hx 0 1 (by decide)
        rw [Nat.mul_one, Nat.add_zero] at a1 a2
        have a2' : List.take 1 (List.drop (d + i) cs) = [.int .i64 x] := a2
        have n1 : ¬ b = b14 := (fresh_findS hb14.2.2.2.2 he).2
        have n2 : ¬ b = b9 := (fresh_findS hb9.2.2 he).2
        have n3 : ¬ b = b8 := (fresh_findS hb8 he).2
        have i3 : (i : Int) < (l.length : Int) := by omega
        have i4 : (i : Int) < 20 := by omega
        have jx : i64B x = true := i64B_in (hb x (List.mem_of_getElem? hx))
        have hq := pickN_lt x (n := 4) (by decide)
        obtain ⟨k, hk⟩ : ∃ k, k = pickN x 4 := ⟨_, rfl⟩
        rw [← hk] at hq
        have jk' : i64B (k : Int) = true := i64B_in (by unfold i64In; omega)
        obtain ⟨v, hv⟩ : ∃ v, v = ofW (k : Int) := ⟨_, rfl⟩
        cases warm
        · have hstep := hs.step hle v (fun h => absurd (show i = m from h) (by omega)) (decide (0 < i)) rfl
          obtain ⟨s1, s2, s3, s4, s5, s6⟩ := storeP_step o now v (decide (0 < i))
          dsimp only at hstep
          obtain ⟨S, hS⟩ : ∃ S, S = storeP o now v (decide (0 < i)) := ⟨_, rfl⟩
          rw [← hS] at hstep s1 s2 s3 s4 s5 s6
          obtain ⟨sa, sb⟩ := S
          dsimp only at hstep s1 s2 s3 s4 s5 s6
          have nb : ¬ B + sb < 0 := by have h1 := hstep.low; have h2 := lowW_nn o v; dsimp only at h1; omega
          simp only [push_cast, Nat.reduceAdd, Nat.reduceSub, Nat.reduceMul, Nat.reduceLT, Nat.reduceLeDiff, Nat.reduceEqDiff, Nat.reduceMod, Nat.reduceDiv, Int.reduceAdd, Int.reduceSub, Int.reduceMul, Int.reduceLT, Int.reduceLE, Int.reduceEq, Int.reduceNeg, Int.reduceToNat, reduceIte, reduceCtorEq, Int.reduceBEq, Int.reduceBNe, Bool.true_beq, Bool.false_beq, Bool.true_bne, Bool.false_bne, Bool.not_true, Bool.not_false, hb8, hb9, hb14, n1, n2, n3, he, i3, i4, hil, a1, a2', jx, j4, q4, ← hk, jk', ← hv, ← hS, wrap_i64' (show -9223372036854775808 ≤ P + sa ∧ P + sa ≤ 9223372036854775807 by omega), wrap_i64' (show -9223372036854775808 ≤ B + sb ∧ B + sb ≤ 9223372036854775807 by omega), wrap_i64' (show -9223372036854775808 ≤ (i : Int) + 1 ∧ (i : Int) + 1 ≤ 9223372036854775807 by omega), nb]
          exact ⟨⟨i + 1, v, P + sa, B + sb⟩, hstep, by dsimp only; omega, ⟨rfl, rfl, rfl⟩, rfl, subH_cons hb14.2.2.2.2⟩
        · have hstep := hs.step hle v (fun h => absurd (show i = m from h) (by omega)) true rfl
          obtain ⟨s1, s2, s3, s4, s5, s6⟩ := storeP_step o now v true
          dsimp only at hstep
          obtain ⟨S, hS⟩ : ∃ S, S = storeP o now v true := ⟨_, rfl⟩
          rw [← hS] at hstep s1 s2 s3 s4 s5 s6
          obtain ⟨sa, sb⟩ := S
          dsimp only at hstep s1 s2 s3 s4 s5 s6
          have nb : ¬ B + sb < 0 := by have h1 := hstep.low; have h2 := lowW_nn o v; dsimp only at h1; omega
          simp only [push_cast, Nat.reduceAdd, Nat.reduceSub, Nat.reduceMul, Nat.reduceLT, Nat.reduceLeDiff, Nat.reduceEqDiff, Nat.reduceMod, Nat.reduceDiv, Int.reduceAdd, Int.reduceSub, Int.reduceMul, Int.reduceLT, Int.reduceLE, Int.reduceEq, Int.reduceNeg, Int.reduceToNat, reduceIte, reduceCtorEq, Int.reduceBEq, Int.reduceBNe, Bool.true_beq, Bool.false_beq, Bool.true_bne, Bool.false_bne, Bool.not_true, Bool.not_false, hb8, hb9, hb14, n1, n2, n3, he, i3, i4, hil, a1, a2', jx, j4, q4, ← hk, jk', ← hv, ← hS, wrap_i64' (show -9223372036854775808 ≤ P + sa ∧ P + sa ≤ 9223372036854775807 by omega), wrap_i64' (show -9223372036854775808 ≤ B + sb ∧ B + sb ≤ 9223372036854775807 by omega), wrap_i64' (show -9223372036854775808 ≤ (i : Int) + 1 ∧ (i : Int) + 1 ≤ 9223372036854775807 by omega), nb]
          exact ⟨⟨i + 1, v, P + sa, B + sb⟩, hstep, by dsimp only; omega, ⟨rfl, rfl, rfl⟩, rfl, subH_cons hb14.2.2.2.2⟩
      · rcases Nat.lt_or_ge i l.length with h2 | h2
        · have i3 : (i : Int) < (l.length : Int) := by omega
          have i4 : ¬ (i : Int) < 20 := by omega
          cases warm
          · have hstep := hs.step hle o (fun _ => rfl) (decide (0 < i)) rfl
            obtain ⟨s1, s2, s3, s4, s5, s6⟩ := storeP_step o now o (decide (0 < i))
            dsimp only at hstep
            obtain ⟨S, hS⟩ : ∃ S, S = storeP o now o (decide (0 < i)) := ⟨_, rfl⟩
            rw [← hS] at hstep s1 s2 s3 s4 s5 s6
            obtain ⟨sa, sb⟩ := S
            dsimp only at hstep s1 s2 s3 s4 s5 s6
            have nb : ¬ B + sb < 0 := by have h1 := hstep.low; have h2 := lowW_nn o o; dsimp only at h1; omega
            simp only [push_cast, Nat.reduceAdd, Nat.reduceSub, Nat.reduceMul, Nat.reduceLT, Nat.reduceLeDiff, Nat.reduceEqDiff, Nat.reduceMod, Nat.reduceDiv, Int.reduceAdd, Int.reduceSub, Int.reduceMul, Int.reduceLT, Int.reduceLE, Int.reduceEq, Int.reduceNeg, Int.reduceToNat, reduceIte, reduceCtorEq, Int.reduceBEq, Int.reduceBNe, Bool.true_beq, Bool.false_beq, Bool.true_bne, Bool.false_bne, Bool.not_true, Bool.not_false, hb8, hb9, hb14, i3, i4, h2, ← hS, wrap_i64' (show -9223372036854775808 ≤ P + sa ∧ P + sa ≤ 9223372036854775807 by omega), wrap_i64' (show -9223372036854775808 ≤ B + sb ∧ B + sb ≤ 9223372036854775807 by omega), wrap_i64' (show -9223372036854775808 ≤ (i : Int) + 1 ∧ (i : Int) + 1 ≤ 9223372036854775807 by omega), nb]
            exact ⟨⟨i + 1, o, P + sa, B + sb⟩, hstep, by dsimp only; omega, ⟨rfl, rfl, rfl⟩, rfl, subH_cons hb14.2.2.2.2⟩
          · have hstep := hs.step hle o (fun _ => rfl) true rfl
            obtain ⟨s1, s2, s3, s4, s5, s6⟩ := storeP_step o now o true
            dsimp only at hstep
            obtain ⟨S, hS⟩ : ∃ S, S = storeP o now o true := ⟨_, rfl⟩
            rw [← hS] at hstep s1 s2 s3 s4 s5 s6
            obtain ⟨sa, sb⟩ := S
            dsimp only at hstep s1 s2 s3 s4 s5 s6
            have nb : ¬ B + sb < 0 := by have h1 := hstep.low; have h2 := lowW_nn o o; dsimp only at h1; omega
            simp only [push_cast, Nat.reduceAdd, Nat.reduceSub, Nat.reduceMul, Nat.reduceLT, Nat.reduceLeDiff, Nat.reduceEqDiff, Nat.reduceMod, Nat.reduceDiv, Int.reduceAdd, Int.reduceSub, Int.reduceMul, Int.reduceLT, Int.reduceLE, Int.reduceEq, Int.reduceNeg, Int.reduceToNat, reduceIte, reduceCtorEq, Int.reduceBEq, Int.reduceBNe, Bool.true_beq, Bool.false_beq, Bool.true_bne, Bool.false_bne, Bool.not_true, Bool.not_false, hb8, hb9, hb14, i3, i4, h2, ← hS, wrap_i64' (show -9223372036854775808 ≤ P + sa ∧ P + sa ≤ 9223372036854775807 by omega), wrap_i64' (show -9223372036854775808 ≤ B + sb ∧ B + sb ≤ 9223372036854775807 by omega), wrap_i64' (show -9223372036854775808 ≤ (i : Int) + 1 ∧ (i : Int) + 1 ≤ 9223372036854775807 by omega), nb]
            exact ⟨⟨i + 1, o, P + sa, B + sb⟩, hstep, by dsimp only; omega, ⟨rfl, rfl, rfl⟩, rfl, subH_cons hb14.2.2.2.2⟩
        · have i3 : ¬ (i : Int) < (l.length : Int) := by omega
          have i3' : ¬ i < l.length := by omega
          cases warm
          · have hstep := hs.step hle o (fun _ => rfl) (decide (0 < i)) rfl
            obtain ⟨s1, s2, s3, s4, s5, s6⟩ := storeP_step o now o (decide (0 < i))
            dsimp only at hstep
            obtain ⟨S, hS⟩ : ∃ S, S = storeP o now o (decide (0 < i)) := ⟨_, rfl⟩
            rw [← hS] at hstep s1 s2 s3 s4 s5 s6
            obtain ⟨sa, sb⟩ := S
            dsimp only at hstep s1 s2 s3 s4 s5 s6
            have nb : ¬ B + sb < 0 := by have h1 := hstep.low; have h2 := lowW_nn o o; dsimp only at h1; omega
            simp only [push_cast, Nat.reduceAdd, Nat.reduceSub, Nat.reduceMul, Nat.reduceLT, Nat.reduceLeDiff, Nat.reduceEqDiff, Nat.reduceMod, Nat.reduceDiv, Int.reduceAdd, Int.reduceSub, Int.reduceMul, Int.reduceLT, Int.reduceLE, Int.reduceEq, Int.reduceNeg, Int.reduceToNat, reduceIte, reduceCtorEq, Int.reduceBEq, Int.reduceBNe, Bool.true_beq, Bool.false_beq, Bool.true_bne, Bool.false_bne, Bool.not_true, Bool.not_false, hb8, hb9, hb14, i3, i3', ← hS, wrap_i64' (show -9223372036854775808 ≤ P + sa ∧ P + sa ≤ 9223372036854775807 by omega), wrap_i64' (show -9223372036854775808 ≤ B + sb ∧ B + sb ≤ 9223372036854775807 by omega), wrap_i64' (show -9223372036854775808 ≤ (i : Int) + 1 ∧ (i : Int) + 1 ≤ 9223372036854775807 by omega), nb]
            exact ⟨⟨i + 1, o, P + sa, B + sb⟩, hstep, by dsimp only; omega, ⟨rfl, rfl, rfl⟩, rfl, subH_cons hb14.2.2.2.2⟩
          · have hstep := hs.step hle o (fun _ => rfl) true rfl
            obtain ⟨s1, s2, s3, s4, s5, s6⟩ := storeP_step o now o true
            dsimp only at hstep
            obtain ⟨S, hS⟩ : ∃ S, S = storeP o now o true := ⟨_, rfl⟩
            rw [← hS] at hstep s1 s2 s3 s4 s5 s6
            obtain ⟨sa, sb⟩ := S
            dsimp only at hstep s1 s2 s3 s4 s5 s6
            have nb : ¬ B + sb < 0 := by have h1 := hstep.low; have h2 := lowW_nn o o; dsimp only at h1; omega
            simp only [push_cast, Nat.reduceAdd, Nat.reduceSub, Nat.reduceMul, Nat.reduceLT, Nat.reduceLeDiff, Nat.reduceEqDiff, Nat.reduceMod, Nat.reduceDiv, Int.reduceAdd, Int.reduceSub, Int.reduceMul, Int.reduceLT, Int.reduceLE, Int.reduceEq, Int.reduceNeg, Int.reduceToNat, reduceIte, reduceCtorEq, Int.reduceBEq, Int.reduceBNe, Bool.true_beq, Bool.false_beq, Bool.true_bne, Bool.false_bne, Bool.not_true, Bool.not_false, hb8, hb9, hb14, i3, i3', ← hS, wrap_i64' (show -9223372036854775808 ≤ P + sa ∧ P + sa ≤ 9223372036854775807 by omega), wrap_i64' (show -9223372036854775808 ≤ B + sb ∧ B + sb ≤ 9223372036854775807 by omega), wrap_i64' (show -9223372036854775808 ≤ (i : Int) + 1 ∧ (i : Int) + 1 ≤ 9223372036854775807 by omega), nb]
            exact ⟨⟨i + 1, o, P + sa, B + sb⟩, hstep, by dsimp only; omega, ⟨rfl, rfl, rfl⟩, rfl, subH_cons hb14.2.2.2.2⟩
end Go.Proofs.YtfioapldbajpmaaDoor
