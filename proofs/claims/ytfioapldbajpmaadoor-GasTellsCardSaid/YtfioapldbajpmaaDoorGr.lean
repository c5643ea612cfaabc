/- Gr: GasTells. -/
import Derived.Test.YtfioapldbajpmaaDoorGq
import Derived.Test.YtfioapldbajpmaaDoorGn
set_option linter.unusedSimpArgs false
set_option linter.unusedVariables false
namespace Go.Proofs.YtfioapldbajpmaaDoor
open Go Go.Ev Go.Proofs
set_option maxRecDepth 100000
set_option maxHeartbeats 4000000
def plGT : Plans := fun i => if i = 2 then [(0, 9)] else if i = 4 then [(0, 9)] else if i = 8 then [(0, 9)] else if i = 16 then [(0, 9)] else if i = 28 then [(0, 9)] else if i = 33 then [] else Tryd.pl3 i
attribute [push_cast] plGT
def trC (t : W × W × W) : List Value := t.1.cells ++ (t.2.1.cells ++ t.2.2.cells)
theorem trC_len (t : W × W × W) : (trC t).length = 12 := rfl
/-- a region whose order is open, at which the reckoning was stopped -/
theorem drawO {P : Program} {G : Gam} (hG : GamOk P G) (hmix : P.follows .mixedOrders = true) {r : Option Nat} {n : Nat} {id : Nat} {ops : Array Oper} {K : Exit → Tm → Hp → Prop} {T : Tm} {H : Hp} (s : List (Nat × Nat)) (hp : (planS ops s || planOk ops s) = true) (h : oD P G n ops.toList (K .normal) s T H) : WpV P r n (.region id ops true) K T H :=
  drawV hG hmix _ (((Bool.or_eq_true _ _).mp hp).elim planS_ok fun hh => hh) (by rw [oD_eq] at h; exact h)
theorem flatMap_take {α : Type} {c : α → List Value} {s : Nat} (hs : ∀ x, (c x).length = s) : ∀ (n : Nat) (l : List α), List.take (n * s) (l.flatMap c) = (l.take n).flatMap c
  | 0, _ => by simp
  | _ + 1, [] => by simp
  | n + 1, x :: r => by
    rw [List.take_succ_cons, List.flatMap_cons, List.flatMap_cons, Nat.succ_mul, Nat.add_comm, ← hs x, List.take_length_add_append, hs x, flatMap_take hs n r]
theorem LiR.cut {α : Type} {c : α → List Value} {s : Nat} (hs : ∀ x, (c x).length = s) {H : Hp} {l : List α} {p q : Option Addr} {k n : Nat} (hl : LiR c s H l (.slice p l.length k)) (hq : slAddr p k 0 s = q) :
    LiR c s H (l.take n) (.slice q (min n l.length) k) := by
  obtain ⟨p', k', e, h⟩ := hl
  injection e with e1 e2 e3
  subst e1 e3
  refine ⟨q, k, by rw [List.length_take], ?_⟩
  rcases h with rfl | ⟨b, o, rfl, h⟩
  · exact .inl (by simp)
  · refine .inr ⟨b, o, ?_, ?_⟩
    · rw [← hq]; unfold slAddr; split <;> simp
    · obtain ⟨e, he⟩ := cellsAt_findS h
      unfold cellsAt at h ⊢
      rw [he] at h ⊢
      dsimp only at h ⊢
      split at h
      case isFalse => cases h
      rename_i h1
      rw [if_pos h1]
      unfold subL at h ⊢
      split at h
      case isFalse => cases h
      rename_i h2
      have h3 := Option.some.inj h
      have h4 : (l.take n).length * s ≤ l.length * s := Nat.mul_le_mul_right _ (by rw [List.length_take]; omega)
      rw [if_pos (by omega)]
      congr 1
      have h5 : (l.take n).length * s = min (n * s) (l.length * s) := by
        rw [List.length_take]
        rcases Nat.le_total n l.length with h | h
        · rw [Nat.min_eq_left h, Nat.min_eq_left (Nat.mul_le_mul_right _ h)]
        · rw [Nat.min_eq_right h, Nat.min_eq_right (Nat.mul_le_mul_right _ h)]
      rw [h5, ← List.take_take, h3]
      exact flatMap_take hs n l
theorem gasTells_ok {M : Hp} {a b c : W} {n refund : Int} {f0 f1 f2 : Bool} {s0 s1 : List (Int × Int)} {u0 u1 : Value} {R W' : List KeyT} {vr vw : Value} {data : ByteArray} (hn : i64In n) (hrf : i64In refund)
    (hs0 : LiR prV 2 M s0 u0) (hs1 : LiR prV 2 M s1 u1) (hi0 : ∀ x ∈ s0, i64In x.1 ∧ i64In x.2) (hi1 : ∀ x ∈ s1, i64In x.1 ∧ i64In x.2) (hr : LiR KeyT.cells 25 M R vr) (hw : LiR KeyT.cells 25 M W' vw) (hm : marksOf M = []) (hcr : ∀ p n k, vr = .slice p n k → n ≤ k) (hcw : ∀ p n k, vw = .slice p n k → n ≤ k) :
    CallsV Tryd.prog 3 [a.v, b.v, c.v, .int .i64 n, .int .i64 refund, .agg #[.bool f0, .bool f1, .bool f2], .agg #[u0, u1], .agg #[vr, vw], .string data] M (Ret0 (.bool true)) := by
  have jn := i64B_in hn
  have jr := i64B_in hrf
  have j2000 : i64B 2000 = true := i64B_in (by decide)
  have p2000 : posB 2000 = true := posB_in (by decide)
  have hp := pickN_lt n (n := 2000) (by decide)
  obtain ⟨k, hk⟩ : ∃ k, k = pickN n 2000 := ⟨_, rfl⟩
  rw [← hk] at hp
  have jk : i64B (k : Int) = true := i64B_in (by unfold i64In; omega)
  refine callsO gQ2_ok Tryd.mix plGT Tryd.func3 rfl Tryd.ntmps3 Tryd.results3 rfl (by first | rfl | assumption) (Nat.le_of_ble_eq_true rfl) (by kernel_rfl) ?_
  simp only [push_cast, Nat.reduceAdd, Nat.reduceSub, Nat.reduceMul, Nat.reduceLT, Nat.reduceLeDiff, Nat.reduceEqDiff, Nat.reduceMod, Nat.reduceDiv, Int.reduceAdd, Int.reduceSub, Int.reduceMul, Int.reduceLT, Int.reduceLE, Int.reduceEq, Int.reduceNeg, Int.reduceToNat, reduceIte, reduceCtorEq, Int.reduceBEq, Int.reduceBNe, Bool.true_beq, Bool.false_beq, Bool.true_bne, Bool.false_bne, Bool.not_true, Bool.not_false]
  intro b9 hb9 b10 hb10 b11 hb11 b14 hb14 b15 hb15 b16 hb16
  obtain ⟨pr, cr, rfl, hlr⟩ := hr
  obtain ⟨pw, cw, rfl, hlw⟩ := hw
  have hcr := hcr pr R.length cr rfl
  have hcw := hcw pw W'.length cw rfl
  obtain ⟨ML, hML⟩ : ∃ ML : Hp, ML = ⟨b16, 0, .cel 30, [.slice pr R.length cr, .slice pw W'.length cw]⟩ :: ⟨b15, 0, .cel 27, [u0, u1]⟩ :: ⟨b14, 0, .cel 25, [.bool f0, .bool f1, .bool f2]⟩ :: ⟨b11, 0, .cel 24, c.cells⟩ :: ⟨b10, 0, .cel 24, b.cells⟩ :: ⟨b9, 0, .cel 24, a.cells⟩ :: M := ⟨_, rfl⟩
  have g16 : findE ML b16 = some ⟨b16, 0, .cel 30, [.slice pr R.length cr, .slice pw W'.length cw]⟩ := by rw [hML]; simp [findE]
  have g15 : findE ML b15 = some ⟨b15, 0, .cel 27, [u0, u1]⟩ := by rw [hML]; simp [findE, hb16]
  have g14 : findE ML b14 = some ⟨b14, 0, .cel 25, [.bool f0, .bool f1, .bool f2]⟩ := by rw [hML]; simp [findE, hb16, hb15]
  have g11 : findE ML b11 = some ⟨b11, 0, .cel 24, c.cells⟩ := by rw [hML]; simp [findE, hb16, hb15, hb14]
  have g10 : findE ML b10 = some ⟨b10, 0, .cel 24, b.cells⟩ := by rw [hML]; simp [findE, hb16, hb15, hb14, hb11]
  have g9 : findE ML b9 = some ⟨b9, 0, .cel 24, a.cells⟩ := by rw [hML]; simp [findE, hb16, hb15, hb14, hb11, hb10]
  have hmL : marksOf ML = [] := by rw [hML]; simp only [marksOf, hm]
  refine (show ∀ {r n c K T}, WpV Tryd.prog r n c K T ML → WpV Tryd.prog r n c K T _ from fun h => by rw [hML] at h; exact h) ?_
  refine regO gQ2_ok ?_
  simp only [push_cast, Nat.reduceAdd, Nat.reduceSub, Nat.reduceMul, Nat.reduceLT, Nat.reduceLeDiff, Nat.reduceEqDiff, Nat.reduceMod, Nat.reduceDiv, Int.reduceAdd, Int.reduceSub, Int.reduceMul, Int.reduceLT, Int.reduceLE, Int.reduceEq, Int.reduceNeg, Int.reduceToNat, reduceIte, reduceCtorEq, Int.reduceBEq, Int.reduceBNe, Bool.true_beq, Bool.false_beq, Bool.true_bne, Bool.false_bne, Bool.not_true, Bool.not_false, jn, j2000, p2000, ← hk]
  intro bl hbl
  refine loopO gQ2_ok (pl := plGT) Tryd.mix (X := Nat)
    (fun i => ([(3, .int .i64 n), (4, .int .i64 refund), (8, .string data), (9, .pointer (some ⟨b9, 0, none⟩)), (10, .pointer (some ⟨b10, 0, none⟩)), (11, .pointer (some ⟨b11, 0, none⟩)), (14, .pointer (some ⟨b14, 0, none⟩)), (15, .pointer (some ⟨b15, 0, none⟩)), (16, .pointer (some ⟨b16, 0, none⟩)), (19, .bool true), (45, .slice (some ⟨bl, 0, none⟩) 2 2), (46, .int .i64 2), (47, .int .i64 i)],
      ⟨bl, 0, .vec 3 1 2, [.int .i64 n, .int .i64 k]⟩ :: ML))
    (fun i => i ≤ 2) (fun i => 2 - i) 0 ?_ ?_ (by kernel_rfl) ?_
  · exact Nat.zero_le _
  · simp only [push_cast, Nat.reduceAdd, Nat.reduceSub, Nat.reduceMul, Nat.reduceLT, Nat.reduceLeDiff, Nat.reduceEqDiff, Nat.reduceMod, Nat.reduceDiv, Int.reduceAdd, Int.reduceSub, Int.reduceMul, Int.reduceLT, Int.reduceLE, Int.reduceEq, Int.reduceNeg, Int.reduceToNat, reduceIte, reduceCtorEq, Int.reduceBEq, Int.reduceBNe, Bool.true_beq, Bool.false_beq, Bool.true_bne, Bool.false_bne, Bool.not_true, Bool.not_false]
    exact subH_self _
  · intro i hi
    dsimp only at hi ⊢
    have h14 : ¬ b14 = bl := (fresh_findS hbl g14).2
    obtain rfl | rfl | rfl : i = 0 ∨ i = 1 ∨ i = 2 := by omega
    · simp only [push_cast, Nat.reduceAdd, Nat.reduceSub, Nat.reduceMul, Nat.reduceLT, Nat.reduceLeDiff, Nat.reduceEqDiff, Nat.reduceMod, Nat.reduceDiv, Int.reduceAdd, Int.reduceSub, Int.reduceMul, Int.reduceLT, Int.reduceLE, Int.reduceEq, Int.reduceNeg, Int.reduceToNat, reduceIte, reduceCtorEq, Int.reduceBEq, Int.reduceBNe, Bool.true_beq, Bool.false_beq, Bool.true_bne, Bool.false_bne, Bool.not_true, Bool.not_false]
      refine regO gQ2_ok ?_
      simp only [push_cast, Nat.reduceAdd, Nat.reduceSub, Nat.reduceMul, Nat.reduceLT, Nat.reduceLeDiff, Nat.reduceEqDiff, Nat.reduceMod, Nat.reduceDiv, Int.reduceAdd, Int.reduceSub, Int.reduceMul, Int.reduceLT, Int.reduceLE, Int.reduceEq, Int.reduceNeg, Int.reduceToNat, reduceIte, reduceCtorEq, Int.reduceBEq, Int.reduceBNe, Bool.true_beq, Bool.false_beq, Bool.true_bne, Bool.false_bne, Bool.not_true, Bool.not_false, jn, jr, h14, g14, bne_self_eq_false, wrap_i64' (show -9223372036854775808 ≤ (1 : Int) ∧ (1 : Int) ≤ 9223372036854775807 by omega)]
      exact ⟨1, by omega, by omega, rfl, subH_self _⟩
    · simp only [push_cast, Nat.reduceAdd, Nat.reduceSub, Nat.reduceMul, Nat.reduceLT, Nat.reduceLeDiff, Nat.reduceEqDiff, Nat.reduceMod, Nat.reduceDiv, Int.reduceAdd, Int.reduceSub, Int.reduceMul, Int.reduceLT, Int.reduceLE, Int.reduceEq, Int.reduceNeg, Int.reduceToNat, reduceIte, reduceCtorEq, Int.reduceBEq, Int.reduceBNe, Bool.true_beq, Bool.false_beq, Bool.true_bne, Bool.false_bne, Bool.not_true, Bool.not_false]
      refine regO gQ2_ok ?_
      simp only [push_cast, Nat.reduceAdd, Nat.reduceSub, Nat.reduceMul, Nat.reduceLT, Nat.reduceLeDiff, Nat.reduceEqDiff, Nat.reduceMod, Nat.reduceDiv, Int.reduceAdd, Int.reduceSub, Int.reduceMul, Int.reduceLT, Int.reduceLE, Int.reduceEq, Int.reduceNeg, Int.reduceToNat, reduceIte, reduceCtorEq, Int.reduceBEq, Int.reduceBNe, Bool.true_beq, Bool.false_beq, Bool.true_bne, Bool.false_bne, Bool.not_true, Bool.not_false, jk, jr, h14, g14, bne_self_eq_false, wrap_i64' (show -9223372036854775808 ≤ (2 : Int) ∧ (2 : Int) ≤ 9223372036854775807 by omega)]
      exact ⟨2, by omega, by omega, rfl, subH_self _⟩
    · have h9 : ¬ b9 = bl := (fresh_findS hbl g9).2
      have h10 : ¬ b10 = bl := (fresh_findS hbl g10).2
      have h11 : ¬ b11 = bl := (fresh_findS hbl g11).2
      simp only [push_cast, Nat.reduceAdd, Nat.reduceSub, Nat.reduceMul, Nat.reduceLT, Nat.reduceLeDiff, Nat.reduceEqDiff, Nat.reduceMod, Nat.reduceDiv, Int.reduceAdd, Int.reduceSub, Int.reduceMul, Int.reduceLT, Int.reduceLE, Int.reduceEq, Int.reduceNeg, Int.reduceToNat, reduceIte, reduceCtorEq, Int.reduceBEq, Int.reduceBNe, Bool.true_beq, Bool.false_beq, Bool.true_bne, Bool.false_bne, Bool.not_true, Bool.not_false]
      refine regO gQ2_ok ?_
      have dz : List.drop 1 W.zero.cells = [.int .u64 0, .int .u64 0, .int .u64 0] := rfl
      have dz2 : List.drop 2 W.zero.cells = [.int .u64 0, .int .u64 0] := rfl
      have dz3 : List.drop 3 W.zero.cells = [.int .u64 0] := rfl
      have zl : W.zero.cells.length = 4 := rfl
      have wl : ∀ w : W, w.cells.length = 4 := fun _ => rfl
      have t1 : ∀ w : W, List.take 1 w.cells = [.int .u64 w.a] := fun _ => rfl
      obtain ⟨ta, hta⟩ : ∃ t, t = a.a % 3 := ⟨_, rfl⟩
      obtain ⟨tb, htb⟩ : ∃ t, t = b.a % 3 := ⟨_, rfl⟩
      obtain ⟨tc, htc⟩ : ∃ t, t = c.a % 3 := ⟨_, rfl⟩
      have ra : (a.a : Int).tmod 3 = (ta : Int) := by rw [hta]; rfl
      have rb : (b.a : Int).tmod 3 = (tb : Int) := by rw [htb]; rfl
      have rc : (c.a : Int).tmod 3 = (tc : Int) := by rw [htc]; rfl
      simp only [push_cast, Nat.reduceAdd, Nat.reduceSub, Nat.reduceMul, Nat.reduceLT, Nat.reduceLeDiff, Nat.reduceEqDiff, Nat.reduceMod, Nat.reduceDiv, Int.reduceAdd, Int.reduceSub, Int.reduceMul, Int.reduceLT, Int.reduceLE, Int.reduceEq, Int.reduceNeg, Int.reduceToNat, reduceIte, reduceCtorEq, Int.reduceBEq, Int.reduceBNe, Bool.true_beq, Bool.false_beq, Bool.true_bne, Bool.false_bne, Bool.not_true, Bool.not_false, h9, h10, h11, g9, g10, g11, dz, dz2, dz3, zl, wl, t1, ra, rb, rc]
      intro bt hbt
      have hta' : ta < 18446744073709551616 := by omega
      have htb' : tb < 18446744073709551616 := by omega
      have htc' : tc < 18446744073709551616 := by omega
      obtain ⟨T, hT⟩ : ∃ T : List (W × W × W), T = [(a, b, c), (a, a, c), (a, b, a), (W.zero, b, W.zero), (a, W.zero, a), (a, b, W.zero), (a, b, b), (⟨ta, 0, 0, 0, hta', by decide, by decide, by decide⟩, ⟨tb, 0, 0, 0, htb', by decide, by decide, by decide⟩, ⟨tc, 0, 0, 0, htc', by decide, by decide, by decide⟩)] := ⟨_, rfl⟩
      have hTl : T.length = 8 := by rw [hT]; rfl
      refine loopO gQ2_ok (pl := plGT) Tryd.mix (X := Nat)
        (fun i => ([(3, .int .i64 n), (4, .int .i64 refund), (8, .string data), (9, .pointer (some ⟨b9, 0, none⟩)), (10, .pointer (some ⟨b10, 0, none⟩)), (11, .pointer (some ⟨b11, 0, none⟩)), (14, .pointer (some ⟨b14, 0, none⟩)), (15, .pointer (some ⟨b15, 0, none⟩)), (16, .pointer (some ⟨b16, 0, none⟩)), (19, .bool true), (132, .slice (some ⟨bt, 0, none⟩) 8 8), (133, .int .i64 8), (134, .int .i64 i)],
          ⟨bt, 0, .vec 36 12 8, T.flatMap trC⟩ :: ML))
        (fun i => i ≤ 8) (fun i => 8 - i) 0 ?_ ?_ (by kernel_rfl) ?_
      · exact Nat.zero_le _
      · rw [hT]
        simp only [push_cast, Nat.reduceAdd, Nat.reduceSub, Nat.reduceMul, Nat.reduceLT, Nat.reduceLeDiff, Nat.reduceEqDiff, Nat.reduceMod, Nat.reduceDiv, Int.reduceAdd, Int.reduceSub, Int.reduceMul, Int.reduceLT, Int.reduceLE, Int.reduceEq, Int.reduceNeg, Int.reduceToNat, reduceIte, reduceCtorEq, Int.reduceBEq, Int.reduceBNe, Bool.true_beq, Bool.false_beq, Bool.true_bne, Bool.false_bne, Bool.not_true, Bool.not_false]
        refine ⟨rfl, subH_cons hbl⟩
      · intro i hi
        dsimp only at hi ⊢
        have e14 : ¬ b14 = bt := (fresh_findS hbt.2.2 g14).2
        rcases Nat.lt_or_ge i 8 with hlt | hge
        · obtain ⟨⟨x, y, z⟩, hx⟩ : ∃ t, T[i]? = some t := ⟨T[i], List.getElem?_eq_getElem (by omega)⟩
          have hat : List.take 12 (List.drop (i * 12) (T.flatMap trC)) = x.cells ++ (y.cells ++ z.cells) := by
            have := flatMap_at trC_len hx (q := 0) (n := 12) (Nat.le_refl _)
            rw [Nat.add_zero, List.drop_zero] at this
            exact this
          have htl : (T.flatMap trC).length = 96 := by rw [flatMap_len trC_len, hTl]
          have i1 : (i : Int) < 8 := by omega
          have i2 : i * 12 + 12 ≤ 96 := by omega
          have va : ∀ w : W, Value.agg w.cells.toArray = w.v := fun _ => rfl
          have o1 : (x.cells ++ (y.cells ++ z.cells)).all oneC = true := rfl
          have o2 : (x.cells ++ (y.cells ++ z.cells)).length = 12 := rfl
          have o3 : List.take 4 (x.cells ++ (y.cells ++ z.cells)) = x.cells := rfl
          have o4 : List.take 4 (List.drop 4 (x.cells ++ (y.cells ++ z.cells))) = y.cells := rfl
          have o5 : List.take 4 (List.drop 8 (x.cells ++ (y.cells ++ z.cells))) = z.cells := rfl
          simp only [push_cast, Nat.reduceAdd, Nat.reduceSub, Nat.reduceMul, Nat.reduceLT, Nat.reduceLeDiff, Nat.reduceEqDiff, Nat.reduceMod, Nat.reduceDiv, Int.reduceAdd, Int.reduceSub, Int.reduceMul, Int.reduceLT, Int.reduceLE, Int.reduceEq, Int.reduceNeg, Int.reduceToNat, reduceIte, reduceCtorEq, Int.reduceBEq, Int.reduceBNe, Bool.true_beq, Bool.false_beq, Bool.true_bne, Bool.false_bne, Bool.not_true, Bool.not_false, i1, hlt, hat, htl, i2, o1, o2]
          intro b23 hb23
          have n14 : ¬ b14 = b23 := (fresh_findS hb23.2.2 g14).2
          simp only [push_cast, Nat.reduceAdd, Nat.reduceSub, Nat.reduceMul, Nat.reduceLT, Nat.reduceLeDiff, Nat.reduceEqDiff, Nat.reduceMod, Nat.reduceDiv, Int.reduceAdd, Int.reduceSub, Int.reduceMul, Int.reduceLT, Int.reduceLE, Int.reduceEq, Int.reduceNeg, Int.reduceToNat, reduceIte, reduceCtorEq, Int.reduceBEq, Int.reduceBNe, Bool.true_beq, Bool.false_beq, Bool.true_bne, Bool.false_bne, Bool.not_true, Bool.not_false, hb23, o1, o2, o3, o4, o5, va, n14, e14, g14, bne_self_eq_false, wrap_i64' (show -9223372036854775808 ≤ (i : Int) + 1 ∧ (i : Int) + 1 ≤ 9223372036854775807 by omega)]
          exact ⟨i + 1, hlt, by omega, rfl, subH_cons hb23.2.2⟩
        · obtain rfl : i = 8 := by omega
          simp only [push_cast, Nat.reduceAdd, Nat.reduceSub, Nat.reduceMul, Nat.reduceLT, Nat.reduceLeDiff, Nat.reduceEqDiff, Nat.reduceMod, Nat.reduceDiv, Int.reduceAdd, Int.reduceSub, Int.reduceMul, Int.reduceLT, Int.reduceLE, Int.reduceEq, Int.reduceNeg, Int.reduceToNat, reduceIte, reduceCtorEq, Int.reduceBEq, Int.reduceBNe, Bool.true_beq, Bool.false_beq, Bool.true_bne, Bool.false_bne, Bool.not_true, Bool.not_false]
          clear hi hge e14 hta' htb' htc' hT hTl ra rb rc
          have j6 : i64B 60000 = true := i64B_in (by decide)
          have p6 : posB 60000 = true := posB_in (by decide)
          have hp6 := pickN_lt n (n := 60000) (by decide)
          have hq6 := pickN_lt refund (n := 60000) (by decide)
          obtain ⟨k6, hk6⟩ : ∃ k, k = pickN n 60000 := ⟨_, rfl⟩
          obtain ⟨r6, hr6⟩ : ∃ k, k = pickN refund 60000 := ⟨_, rfl⟩
          rw [← hk6] at hp6
          rw [← hr6] at hq6
          have jk6 : i64B (k6 : Int) = true := i64B_in (by unfold i64In; omega)
          have jr6 : i64B (r6 : Int) = true := i64B_in (by unfold i64In; omega)
          obtain ⟨wq, hwq⟩ : ∃ w, w = ofW (r6 : Int) := ⟨_, rfl⟩
          refine regO gQ2_ok ?_
          simp only [push_cast, Nat.reduceAdd, Nat.reduceSub, Nat.reduceMul, Nat.reduceLT, Nat.reduceLeDiff, Nat.reduceEqDiff, Nat.reduceMod, Nat.reduceDiv, Int.reduceAdd, Int.reduceSub, Int.reduceMul, Int.reduceLT, Int.reduceLE, Int.reduceEq, Int.reduceNeg, Int.reduceToNat, reduceIte, reduceCtorEq, Int.reduceBEq, Int.reduceBNe, Bool.true_beq, Bool.false_beq, Bool.true_bne, Bool.false_bne, Bool.not_true, Bool.not_false, jn, j6, p6, ← hk6]
          intro bq hbq
          refine loopO gQ2_ok (pl := plGT) Tryd.mix (X := Nat)
            (fun i => ([(3, .int .i64 n), (4, .int .i64 refund), (8, .string data), (9, .pointer (some ⟨b9, 0, none⟩)), (14, .pointer (some ⟨b14, 0, none⟩)), (15, .pointer (some ⟨b15, 0, none⟩)), (16, .pointer (some ⟨b16, 0, none⟩)), (19, .bool true), (174, .slice (some ⟨bq, 0, none⟩) 2 2), (175, .int .i64 2), (176, .int .i64 i)],
              ⟨bq, 0, .vec 3 1 2, [.int .i64 n, .int .i64 k6]⟩ :: ML))
            (fun i => i ≤ 2) (fun i => 2 - i) 0 ?_ ?_ (by kernel_rfl) ?_
          · exact Nat.zero_le _
          · simp only [push_cast, Nat.reduceAdd, Nat.reduceSub, Nat.reduceMul, Nat.reduceLT, Nat.reduceLeDiff, Nat.reduceEqDiff, Nat.reduceMod, Nat.reduceDiv, Int.reduceAdd, Int.reduceSub, Int.reduceMul, Int.reduceLT, Int.reduceLE, Int.reduceEq, Int.reduceNeg, Int.reduceToNat, reduceIte, reduceCtorEq, Int.reduceBEq, Int.reduceBNe, Bool.true_beq, Bool.false_beq, Bool.true_bne, Bool.false_bne, Bool.not_true, Bool.not_false]
            exact subH_cons hbt.2.2
          · intro i hi
            dsimp only at hi ⊢
            have q14 : ¬ b14 = bq := (fresh_findS hbq.2.2 g14).2
            have q9 : ¬ b9 = bq := (fresh_findS hbq.2.2 g9).2
            obtain rfl | rfl | rfl : i = 0 ∨ i = 1 ∨ i = 2 := by omega
            · simp only [push_cast, Nat.reduceAdd, Nat.reduceSub, Nat.reduceMul, Nat.reduceLT, Nat.reduceLeDiff, Nat.reduceEqDiff, Nat.reduceMod, Nat.reduceDiv, Int.reduceAdd, Int.reduceSub, Int.reduceMul, Int.reduceLT, Int.reduceLE, Int.reduceEq, Int.reduceNeg, Int.reduceToNat, reduceIte, reduceCtorEq, Int.reduceBEq, Int.reduceBNe, Bool.true_beq, Bool.false_beq, Bool.true_bne, Bool.false_bne, Bool.not_true, Bool.not_false, q9, g9, jr, j6, p6, ← hr6, jr6, ← hwq]
              intro bw hbw
              simp only [push_cast, Nat.reduceAdd, Nat.reduceSub, Nat.reduceMul, Nat.reduceLT, Nat.reduceLeDiff, Nat.reduceEqDiff, Nat.reduceMod, Nat.reduceDiv, Int.reduceAdd, Int.reduceSub, Int.reduceMul, Int.reduceLT, Int.reduceLE, Int.reduceEq, Int.reduceNeg, Int.reduceToNat, reduceIte, reduceCtorEq, Int.reduceBEq, Int.reduceBNe, Bool.true_beq, Bool.false_beq, Bool.true_bne, Bool.false_bne, Bool.not_true, Bool.not_false, hbw]
              refine ⟨subH_cons hbw.2.2, ?_⟩
              have w14 : ¬ b14 = bw := (fresh_findS hbw.2.2 g14).2
              have tk0 : List.take 4 (a.cells ++ wq.cells) = a.cells := rfl
              have tk1 : List.take 4 (List.drop 4 (a.cells ++ wq.cells)) = wq.cells := rfl
              have aw : (a.cells ++ wq.cells).length = 8 := rfl
              have dcl : ∀ w : W, w.cells.length = 4 := fun _ => rfl
              have va : ∀ w : W, Value.agg w.cells.toArray = w.v := fun _ => rfl
              refine loopO gQ2_ok (pl := plGT) Tryd.mix (X := Nat)
                (fun j => ([(3, .int .i64 n), (4, .int .i64 refund), (8, .string data), (9, .pointer (some ⟨b9, 0, none⟩)), (14, .pointer (some ⟨b14, 0, none⟩)), (15, .pointer (some ⟨b15, 0, none⟩)), (16, .pointer (some ⟨b16, 0, none⟩)), (19, .bool true), (29, .int .i64 n), (174, .slice (some ⟨bq, 0, none⟩) 2 2), (175, .int .i64 2), (176, .int .i64 0), (184, .slice (some ⟨bw, 0, none⟩) 2 2), (185, .int .i64 2), (186, .int .i64 j)],
                  ⟨bw, 0, .vec 24 4 2, a.cells ++ wq.cells⟩ :: ⟨bq, 0, .vec 3 1 2, [.int .i64 n, .int .i64 k6]⟩ :: ML))
                (fun j => j ≤ 2) (fun j => 2 - j) 0 ?_ ?_ (by kernel_rfl) ?_
              · exact Nat.zero_le _
              · simp only [push_cast, Nat.reduceAdd, Nat.reduceSub, Nat.reduceMul, Nat.reduceLT, Nat.reduceLeDiff, Nat.reduceEqDiff, Nat.reduceMod, Nat.reduceDiv, Int.reduceAdd, Int.reduceSub, Int.reduceMul, Int.reduceLT, Int.reduceLE, Int.reduceEq, Int.reduceNeg, Int.reduceToNat, reduceIte, reduceCtorEq, Int.reduceBEq, Int.reduceBNe, Bool.true_beq, Bool.false_beq, Bool.true_bne, Bool.false_bne, Bool.not_true, Bool.not_false, hbw]
                exact subH_self _
              · intro j hj
                dsimp only at hj ⊢
                obtain rfl | rfl | rfl : j = 0 ∨ j = 1 ∨ j = 2 := by omega
                · simp only [push_cast, Nat.reduceAdd, Nat.reduceSub, Nat.reduceMul, Nat.reduceLT, Nat.reduceLeDiff, Nat.reduceEqDiff, Nat.reduceMod, Nat.reduceDiv, Int.reduceAdd, Int.reduceSub, Int.reduceMul, Int.reduceLT, Int.reduceLE, Int.reduceEq, Int.reduceNeg, Int.reduceToNat, reduceIte, reduceCtorEq, Int.reduceBEq, Int.reduceBNe, Bool.true_beq, Bool.false_beq, Bool.true_bne, Bool.false_bne, Bool.not_true, Bool.not_false, tk0, aw, dcl]
                  intro b31 hb31
                  have n14 : ¬ b14 = b31 := (fresh_findS hb31.2.2.2.2 g14).2
                  obtain ⟨cp, cq, ci, hcc⟩ : ∃ p q i, callP n a f0 f1 f2 = (p, q, i) := ⟨_, _, _, rfl⟩
                  simp only [push_cast, Nat.reduceAdd, Nat.reduceSub, Nat.reduceMul, Nat.reduceLT, Nat.reduceLeDiff, Nat.reduceEqDiff, Nat.reduceMod, Nat.reduceDiv, Int.reduceAdd, Int.reduceSub, Int.reduceMul, Int.reduceLT, Int.reduceLE, Int.reduceEq, Int.reduceNeg, Int.reduceToNat, reduceIte, reduceCtorEq, Int.reduceBEq, Int.reduceBNe, Bool.true_beq, Bool.false_beq, Bool.true_bne, Bool.false_bne, Bool.not_true, Bool.not_false, hcc, hb31, n14, w14, q14, g14, va, jn, jk6, jr6, bne_self_eq_false, wrap_i64' (show -9223372036854775808 ≤ (0 : Int) + 1 ∧ (0 : Int) + 1 ≤ 9223372036854775807 by omega)]
                  exact ⟨1, by omega, by omega, rfl, subH_cons hb31.2.2.2.2⟩
                · simp only [push_cast, Nat.reduceAdd, Nat.reduceSub, Nat.reduceMul, Nat.reduceLT, Nat.reduceLeDiff, Nat.reduceEqDiff, Nat.reduceMod, Nat.reduceDiv, Int.reduceAdd, Int.reduceSub, Int.reduceMul, Int.reduceLT, Int.reduceLE, Int.reduceEq, Int.reduceNeg, Int.reduceToNat, reduceIte, reduceCtorEq, Int.reduceBEq, Int.reduceBNe, Bool.true_beq, Bool.false_beq, Bool.true_bne, Bool.false_bne, Bool.not_true, Bool.not_false, tk1, aw, dcl]
                  intro b31 hb31
                  have n14 : ¬ b14 = b31 := (fresh_findS hb31.2.2.2.2 g14).2
                  obtain ⟨cp, cq, ci, hcc⟩ : ∃ p q i, callP n wq f0 f1 f2 = (p, q, i) := ⟨_, _, _, rfl⟩
                  simp only [push_cast, Nat.reduceAdd, Nat.reduceSub, Nat.reduceMul, Nat.reduceLT, Nat.reduceLeDiff, Nat.reduceEqDiff, Nat.reduceMod, Nat.reduceDiv, Int.reduceAdd, Int.reduceSub, Int.reduceMul, Int.reduceLT, Int.reduceLE, Int.reduceEq, Int.reduceNeg, Int.reduceToNat, reduceIte, reduceCtorEq, Int.reduceBEq, Int.reduceBNe, Bool.true_beq, Bool.false_beq, Bool.true_bne, Bool.false_bne, Bool.not_true, Bool.not_false, hcc, hb31, n14, w14, q14, g14, va, jn, jk6, jr6, bne_self_eq_false, wrap_i64' (show -9223372036854775808 ≤ (1 : Int) + 1 ∧ (1 : Int) + 1 ≤ 9223372036854775807 by omega)]
                  exact ⟨2, by omega, by omega, rfl, subH_cons hb31.2.2.2.2⟩
                · simp only [push_cast, Nat.reduceAdd, Nat.reduceSub, Nat.reduceMul, Nat.reduceLT, Nat.reduceLeDiff, Nat.reduceEqDiff, Nat.reduceMod, Nat.reduceDiv, Int.reduceAdd, Int.reduceSub, Int.reduceMul, Int.reduceLT, Int.reduceLE, Int.reduceEq, Int.reduceNeg, Int.reduceToNat, reduceIte, reduceCtorEq, Int.reduceBEq, Int.reduceBNe, Bool.true_beq, Bool.false_beq, Bool.true_bne, Bool.false_bne, Bool.not_true, Bool.not_false, hbw, wrap_i64' (show -9223372036854775808 ≤ (0 : Int) + 1 ∧ (0 : Int) + 1 ≤ 9223372036854775807 by omega)]
                  exact ⟨1, by omega, by omega, rfl, subH_cons hbw.2.2⟩
            · simp only [push_cast, Nat.reduceAdd, Nat.reduceSub, Nat.reduceMul, Nat.reduceLT, Nat.reduceLeDiff, Nat.reduceEqDiff, Nat.reduceMod, Nat.reduceDiv, Int.reduceAdd, Int.reduceSub, Int.reduceMul, Int.reduceLT, Int.reduceLE, Int.reduceEq, Int.reduceNeg, Int.reduceToNat, reduceIte, reduceCtorEq, Int.reduceBEq, Int.reduceBNe, Bool.true_beq, Bool.false_beq, Bool.true_bne, Bool.false_bne, Bool.not_true, Bool.not_false, q9, g9, jr, j6, p6, ← hr6, jr6, ← hwq]
              intro bw hbw
              simp only [push_cast, Nat.reduceAdd, Nat.reduceSub, Nat.reduceMul, Nat.reduceLT, Nat.reduceLeDiff, Nat.reduceEqDiff, Nat.reduceMod, Nat.reduceDiv, Int.reduceAdd, Int.reduceSub, Int.reduceMul, Int.reduceLT, Int.reduceLE, Int.reduceEq, Int.reduceNeg, Int.reduceToNat, reduceIte, reduceCtorEq, Int.reduceBEq, Int.reduceBNe, Bool.true_beq, Bool.false_beq, Bool.true_bne, Bool.false_bne, Bool.not_true, Bool.not_false, hbw]
              refine ⟨subH_cons hbw.2.2, ?_⟩
              have w14 : ¬ b14 = bw := (fresh_findS hbw.2.2 g14).2
              have tk0 : List.take 4 (a.cells ++ wq.cells) = a.cells := rfl
              have tk1 : List.take 4 (List.drop 4 (a.cells ++ wq.cells)) = wq.cells := rfl
              have aw : (a.cells ++ wq.cells).length = 8 := rfl
              have dcl : ∀ w : W, w.cells.length = 4 := fun _ => rfl
              have va : ∀ w : W, Value.agg w.cells.toArray = w.v := fun _ => rfl
              refine loopO gQ2_ok (pl := plGT) Tryd.mix (X := Nat)
                (fun j => ([(3, .int .i64 n), (4, .int .i64 refund), (8, .string data), (9, .pointer (some ⟨b9, 0, none⟩)), (14, .pointer (some ⟨b14, 0, none⟩)), (15, .pointer (some ⟨b15, 0, none⟩)), (16, .pointer (some ⟨b16, 0, none⟩)), (19, .bool true), (29, .int .i64 k6), (174, .slice (some ⟨bq, 0, none⟩) 2 2), (175, .int .i64 2), (176, .int .i64 1), (184, .slice (some ⟨bw, 0, none⟩) 2 2), (185, .int .i64 2), (186, .int .i64 j)],
                  ⟨bw, 0, .vec 24 4 2, a.cells ++ wq.cells⟩ :: ⟨bq, 0, .vec 3 1 2, [.int .i64 n, .int .i64 k6]⟩ :: ML))
                (fun j => j ≤ 2) (fun j => 2 - j) 0 ?_ ?_ (by kernel_rfl) ?_
              · exact Nat.zero_le _
              · simp only [push_cast, Nat.reduceAdd, Nat.reduceSub, Nat.reduceMul, Nat.reduceLT, Nat.reduceLeDiff, Nat.reduceEqDiff, Nat.reduceMod, Nat.reduceDiv, Int.reduceAdd, Int.reduceSub, Int.reduceMul, Int.reduceLT, Int.reduceLE, Int.reduceEq, Int.reduceNeg, Int.reduceToNat, reduceIte, reduceCtorEq, Int.reduceBEq, Int.reduceBNe, Bool.true_beq, Bool.false_beq, Bool.true_bne, Bool.false_bne, Bool.not_true, Bool.not_false, hbw]
                exact subH_self _
              · intro j hj
                dsimp only at hj ⊢
                obtain rfl | rfl | rfl : j = 0 ∨ j = 1 ∨ j = 2 := by omega
                · simp only [push_cast, Nat.reduceAdd, Nat.reduceSub, Nat.reduceMul, Nat.reduceLT, Nat.reduceLeDiff, Nat.reduceEqDiff, Nat.reduceMod, Nat.reduceDiv, Int.reduceAdd, Int.reduceSub, Int.reduceMul, Int.reduceLT, Int.reduceLE, Int.reduceEq, Int.reduceNeg, Int.reduceToNat, reduceIte, reduceCtorEq, Int.reduceBEq, Int.reduceBNe, Bool.true_beq, Bool.false_beq, Bool.true_bne, Bool.false_bne, Bool.not_true, Bool.not_false, tk0, aw, dcl]
                  intro b31 hb31
                  have n14 : ¬ b14 = b31 := (fresh_findS hb31.2.2.2.2 g14).2
                  obtain ⟨cp, cq, ci, hcc⟩ : ∃ p q i, callP k6 a f0 f1 f2 = (p, q, i) := ⟨_, _, _, rfl⟩
                  simp only [push_cast, Nat.reduceAdd, Nat.reduceSub, Nat.reduceMul, Nat.reduceLT, Nat.reduceLeDiff, Nat.reduceEqDiff, Nat.reduceMod, Nat.reduceDiv, Int.reduceAdd, Int.reduceSub, Int.reduceMul, Int.reduceLT, Int.reduceLE, Int.reduceEq, Int.reduceNeg, Int.reduceToNat, reduceIte, reduceCtorEq, Int.reduceBEq, Int.reduceBNe, Bool.true_beq, Bool.false_beq, Bool.true_bne, Bool.false_bne, Bool.not_true, Bool.not_false, hcc, hb31, n14, w14, q14, g14, va, jn, jk6, jr6, bne_self_eq_false, wrap_i64' (show -9223372036854775808 ≤ (0 : Int) + 1 ∧ (0 : Int) + 1 ≤ 9223372036854775807 by omega)]
                  exact ⟨1, by omega, by omega, rfl, subH_cons hb31.2.2.2.2⟩
                · simp only [push_cast, Nat.reduceAdd, Nat.reduceSub, Nat.reduceMul, Nat.reduceLT, Nat.reduceLeDiff, Nat.reduceEqDiff, Nat.reduceMod, Nat.reduceDiv, Int.reduceAdd, Int.reduceSub, Int.reduceMul, Int.reduceLT, Int.reduceLE, Int.reduceEq, Int.reduceNeg, Int.reduceToNat, reduceIte, reduceCtorEq, Int.reduceBEq, Int.reduceBNe, Bool.true_beq, Bool.false_beq, Bool.true_bne, Bool.false_bne, Bool.not_true, Bool.not_false, tk1, aw, dcl]
                  intro b31 hb31
                  have n14 : ¬ b14 = b31 := (fresh_findS hb31.2.2.2.2 g14).2
                  obtain ⟨cp, cq, ci, hcc⟩ : ∃ p q i, callP k6 wq f0 f1 f2 = (p, q, i) := ⟨_, _, _, rfl⟩
                  simp only [push_cast, Nat.reduceAdd, Nat.reduceSub, Nat.reduceMul, Nat.reduceLT, Nat.reduceLeDiff, Nat.reduceEqDiff, Nat.reduceMod, Nat.reduceDiv, Int.reduceAdd, Int.reduceSub, Int.reduceMul, Int.reduceLT, Int.reduceLE, Int.reduceEq, Int.reduceNeg, Int.reduceToNat, reduceIte, reduceCtorEq, Int.reduceBEq, Int.reduceBNe, Bool.true_beq, Bool.false_beq, Bool.true_bne, Bool.false_bne, Bool.not_true, Bool.not_false, hcc, hb31, n14, w14, q14, g14, va, jn, jk6, jr6, bne_self_eq_false, wrap_i64' (show -9223372036854775808 ≤ (1 : Int) + 1 ∧ (1 : Int) + 1 ≤ 9223372036854775807 by omega)]
                  exact ⟨2, by omega, by omega, rfl, subH_cons hb31.2.2.2.2⟩
                · simp only [push_cast, Nat.reduceAdd, Nat.reduceSub, Nat.reduceMul, Nat.reduceLT, Nat.reduceLeDiff, Nat.reduceEqDiff, Nat.reduceMod, Nat.reduceDiv, Int.reduceAdd, Int.reduceSub, Int.reduceMul, Int.reduceLT, Int.reduceLE, Int.reduceEq, Int.reduceNeg, Int.reduceToNat, reduceIte, reduceCtorEq, Int.reduceBEq, Int.reduceBNe, Bool.true_beq, Bool.false_beq, Bool.true_bne, Bool.false_bne, Bool.not_true, Bool.not_false, hbw, wrap_i64' (show -9223372036854775808 ≤ (1 : Int) + 1 ∧ (1 : Int) + 1 ≤ 9223372036854775807 by omega)]
                  exact ⟨2, by omega, by omega, rfl, subH_cons hbw.2.2⟩
            · simp only [push_cast, Nat.reduceAdd, Nat.reduceSub, Nat.reduceMul, Nat.reduceLT, Nat.reduceLeDiff, Nat.reduceEqDiff, Nat.reduceMod, Nat.reduceDiv, Int.reduceAdd, Int.reduceSub, Int.reduceMul, Int.reduceLT, Int.reduceLE, Int.reduceEq, Int.reduceNeg, Int.reduceToNat, reduceIte, reduceCtorEq, Int.reduceBEq, Int.reduceBNe, Bool.true_beq, Bool.false_beq, Bool.true_bne, Bool.false_bne, Bool.not_true, Bool.not_false]
              obtain ⟨pr', hpr'⟩ : ∃ x, slAddr pr cr 0 25 = x := ⟨_, rfl⟩
              obtain ⟨pw', hpw'⟩ : ∃ x, slAddr pw cw 0 25 = x := ⟨_, rfl⟩
              have cutr := LiR.cut KeyT.len (n := 9) (c := KeyT.cells) (s := 25) ⟨pr, cr, rfl, hlr⟩ hpr'
              have cutw := LiR.cut KeyT.len (n := 9) (c := KeyT.cells) (s := 25) ⟨pw, cw, rfl, hlw⟩ hpw'
              obtain ⟨mr, hmr⟩ : ∃ m, min 9 R.length = m := ⟨_, rfl⟩
              obtain ⟨mw, hmw⟩ : ∃ m, min 9 W'.length = m := ⟨_, rfl⟩
              rw [hmr] at cutr
              rw [hmw] at cutw
              unfold slAddr at hpr' hpw'
              simp only [Nat.zero_mul, Nat.add_zero] at hpr' hpw'
              have e1 : (if 9 < R.length then (9 : Int) else (R.length : Int)) = (mr : Int) := by split <;> omega
              have e2 : (if 9 < W'.length then (9 : Int) else (W'.length : Int)) = (mw : Int) := by split <;> omega
              have e5 : (if (9 : Int) < (R.length : Int) then (9 : Int) else (R.length : Int)) = (mr : Int) := by split <;> omega
              have e6 : (if (9 : Int) < (W'.length : Int) then (9 : Int) else (W'.length : Int)) = (mw : Int) := by split <;> omega
              have e3 : mr ≤ cr := by omega
              have e4 : mw ≤ cw := by omega
              have q16 : ¬ b16 = bq := (fresh_findS hbq.2.2 g16).2
              have q15 : ¬ b15 = bq := (fresh_findS hbq.2.2 g15).2
              refine regO gQ2_ok ?_
              rcases Nat.lt_or_ge 300 data.size with h300 | h300
              · have h3 : 300 ≤ data.size := Nat.le_of_lt h300
                have h3i : (300 : Int) ≤ (data.size : Int) := by omega
                have h300i : (300 : Int) < (data.size : Int) := by omega
                obtain ⟨x, hx⟩ : ∃ x, data.extract 0 300 = x := ⟨_, rfl⟩
                simp only [push_cast, Nat.reduceAdd, Nat.reduceSub, Nat.reduceMul, Nat.reduceLT, Nat.reduceLeDiff, Nat.reduceEqDiff, Nat.reduceMod, Nat.reduceDiv, Int.reduceAdd, Int.reduceSub, Int.reduceMul, Int.reduceLT, Int.reduceLE, Int.reduceEq, Int.reduceNeg, Int.reduceToNat, reduceIte, reduceCtorEq, Int.reduceBEq, Int.reduceBNe, Bool.true_beq, Bool.false_beq, Bool.true_bne, Bool.false_bne, Bool.not_true, Bool.not_false, h300, h3, h300i, h3i, hx, q16, q15, g16, g15, e1, e2, e3, e4, e5, e6, hpr', hpw']
                intro b39 hb39
                have va : ∀ w : W, Value.agg w.cells.toArray = w.v := fun _ => rfl
                have n15 : ¬ b15 = b39 := (fresh_findS hb39.2.2 g15).2
                simp only [push_cast, Nat.reduceAdd, Nat.reduceSub, Nat.reduceMul, Nat.reduceLT, Nat.reduceLeDiff, Nat.reduceEqDiff, Nat.reduceMod, Nat.reduceDiv, Int.reduceAdd, Int.reduceSub, Int.reduceMul, Int.reduceLT, Int.reduceLE, Int.reduceEq, Int.reduceNeg, Int.reduceToNat, reduceIte, reduceCtorEq, Int.reduceBEq, Int.reduceBNe, Bool.true_beq, Bool.false_beq, Bool.true_bne, Bool.false_bne, Bool.not_true, Bool.not_false, hb39, n15]
                refine ⟨subH_cons hb39.2.2, ?_⟩
                have fq := hbq.2.2
                have f39 := hb39.2.2
                rw [hML] at fq f39 ⊢
                simp only [fresh] at fq f39
                refine useL [⟨b39, 0, .cel 30, [.slice pr' mr cr, .slice pw' mw cw]⟩, ⟨bq, 0, .vec 3 1 2, [.int .i64 n, .int .i64 k6]⟩, ⟨b16, 0, .cel 30, [.slice pr R.length cr, .slice pw W'.length cw]⟩, ⟨b15, 0, .cel 27, [u0, u1]⟩, ⟨b14, 0, .cel 25, [.bool f0, .bool f1, .bool f2]⟩, ⟨b11, 0, .cel 24, c.cells⟩, ⟨b10, 0, .cel 24, b.cells⟩, ⟨b9, 0, .cel 24, a.cells⟩] (setsR_R hs0 hs1 hi0 hi1) (SetQ.rd _ _) hm (by simp only [freshN, hb9, hb10, hb11, hb14, hb15, hb16, fq, f39, and_self]) fun v2 M2 hg2 hL2 hq2 => ?_
                obtain ⟨vr2, vw2, rfl, hr2, hw2⟩ := hq2
                have hr2' := hr2
                have hw2' := hw2
                obtain ⟨p1, c1, rfl, -⟩ := hr2
                obtain ⟨p2, c2, rfl, -⟩ := hw2
                simp only [push_cast, Nat.reduceAdd, Nat.reduceSub, Nat.reduceMul, Nat.reduceLT, Nat.reduceLeDiff, Nat.reduceEqDiff, Nat.reduceMod, Nat.reduceDiv, Int.reduceAdd, Int.reduceSub, Int.reduceMul, Int.reduceLT, Int.reduceLE, Int.reduceEq, Int.reduceNeg, Int.reduceToNat, reduceIte, reduceCtorEq, Int.reduceBEq, Int.reduceBNe, Bool.true_beq, Bool.false_beq, Bool.true_bne, Bool.false_bne, Bool.not_true, Bool.not_false]
                intro b40 hb40
                have hL2' := hL2
                simp only [freshN] at hL2'
                refine drawO gQ2_ok Tryd.mix (Tryd.pl3 33) (by kernel_rfl) ?_
                simp only [push_cast, Nat.reduceAdd, Nat.reduceSub, Nat.reduceMul, Nat.reduceLT, Nat.reduceLeDiff, Nat.reduceEqDiff, Nat.reduceMod, Nat.reduceDiv, Int.reduceAdd, Int.reduceSub, Int.reduceMul, Int.reduceLT, Int.reduceLE, Int.reduceEq, Int.reduceNeg, Int.reduceToNat, reduceIte, reduceCtorEq, Int.reduceBEq, Int.reduceBNe, Bool.true_beq, Bool.false_beq, Bool.true_bne, Bool.false_bne, Bool.not_true, Bool.not_false, hb40, f39, fq, hb16, hb15, hb14, hb11, hb10, beq_self_eq_true, va]
                have hL3 : freshN (⟨b40, 0, .cel 30, [.slice p1 (setsR s0 s1).1.length c1, .slice p2 (setsR s0 s1).2.length c2]⟩ :: [⟨b39, 0, .cel 30, [.slice pr' mr cr, .slice pw' mw cw]⟩, ⟨bq, 0, .vec 3 1 2, [.int .i64 n, .int .i64 k6]⟩, ⟨b16, 0, .cel 30, [.slice pr R.length cr, .slice pw W'.length cw]⟩, ⟨b15, 0, .cel 27, [u0, u1]⟩, ⟨b14, 0, .cel 25, [.bool f0, .bool f1, .bool f2]⟩, ⟨b11, 0, .cel 24, c.cells⟩, ⟨b10, 0, .cel 24, b.cells⟩, ⟨b9, 0, .cel 24, a.cells⟩]) M2 := ⟨by simp only [hb40], hL2⟩
                have hd := derE_behind hL3
                simp only [List.cons_append, List.nil_append] at hd
                have k1 : (R.take 9).length ≤ 400000 := Nat.le_trans (List.length_take_le _ _) (by decide)
                have k2 : (W'.take 9).length ≤ 400000 := Nat.le_trans (List.length_take_le _ _) (by decide)
                have k3 : (setsR s0 s1).1.length ≤ 400000 := Nat.le_trans (setK_len (keysR s0)) (Nat.le_trans (keysR_len s0) (by decide))
                have k4 : (setsR s0 s1).2.length ≤ 400000 := Nat.le_trans (setK_len (keysR s1)) (Nat.le_trans (keysR_len s1) (by decide))
                have d0 := gdeclA_R (cutr.ext hg2.ext) (cutw.ext hg2.ext) k1 k2 _ (roAll_ro M2) (cellsAt_roAll M2)
                refine TakeV.mk hd d0 ?_
                simp only [push_cast, Nat.reduceAdd, Nat.reduceSub, Nat.reduceMul, Nat.reduceLT, Nat.reduceLeDiff, Nat.reduceEqDiff, Nat.reduceMod, Nat.reduceDiv, Int.reduceAdd, Int.reduceSub, Int.reduceMul, Int.reduceLT, Int.reduceLE, Int.reduceEq, Int.reduceNeg, Int.reduceToNat, reduceIte, reduceCtorEq, Int.reduceBEq, Int.reduceBNe, Bool.true_beq, Bool.false_beq, Bool.true_bne, Bool.false_bne, Bool.not_true, Bool.not_false, hb40, f39, fq, hb16, hb15, hb14, hb11, hb10]
                have d1 := rdecl_R (cutr.ext hg2.ext) (cutw.ext hg2.ext) k1 k2 _ (roAll_ro M2) (cellsAt_roAll M2)
                refine TakeV.mk hd d1 ?_
                simp only [push_cast, Nat.reduceAdd, Nat.reduceSub, Nat.reduceMul, Nat.reduceLT, Nat.reduceLeDiff, Nat.reduceEqDiff, Nat.reduceMod, Nat.reduceDiv, Int.reduceAdd, Int.reduceSub, Int.reduceMul, Int.reduceLT, Int.reduceLE, Int.reduceEq, Int.reduceNeg, Int.reduceToNat, reduceIte, reduceCtorEq, Int.reduceBEq, Int.reduceBNe, Bool.true_beq, Bool.false_beq, Bool.true_bne, Bool.false_bne, Bool.not_true, Bool.not_false, hb40, f39, fq, hb16, hb15, hb14, hb11, hb10, beq_self_eq_true]
                have d2 := gdeclA_R hr2' hw2' k3 k4 _ (roAll_ro M2) (cellsAt_roAll M2)
                refine TakeV.mk hd d2 ?_
                simp only [push_cast, Nat.reduceAdd, Nat.reduceSub, Nat.reduceMul, Nat.reduceLT, Nat.reduceLeDiff, Nat.reduceEqDiff, Nat.reduceMod, Nat.reduceDiv, Int.reduceAdd, Int.reduceSub, Int.reduceMul, Int.reduceLT, Int.reduceLE, Int.reduceEq, Int.reduceNeg, Int.reduceToNat, reduceIte, reduceCtorEq, Int.reduceBEq, Int.reduceBNe, Bool.true_beq, Bool.false_beq, Bool.true_bne, Bool.false_bne, Bool.not_true, Bool.not_false, hb40, f39, fq, hb16, hb15, hb14, hb11, hb10]
                have d3 := rdecl_R hr2' hw2' k3 k4 _ (roAll_ro M2) (cellsAt_roAll M2)
                refine TakeV.mk hd d3 ?_
                simp only [push_cast, Nat.reduceAdd, Nat.reduceSub, Nat.reduceMul, Nat.reduceLT, Nat.reduceLeDiff, Nat.reduceEqDiff, Nat.reduceMod, Nat.reduceDiv, Int.reduceAdd, Int.reduceSub, Int.reduceMul, Int.reduceLT, Int.reduceLE, Int.reduceEq, Int.reduceNeg, Int.reduceToNat, reduceIte, reduceCtorEq, Int.reduceBEq, Int.reduceBNe, Bool.true_beq, Bool.false_beq, Bool.true_bne, Bool.false_bne, Bool.not_true, Bool.not_false, hb40, f39, fq, hb16, hb15, hb14, hb11, hb10, beq_self_eq_true]
              · have h3 : ¬ 300 < data.size := by omega
                have h3i : ¬ (300 : Int) < (data.size : Int) := by omega
                obtain ⟨x, hx⟩ : ∃ x, x = data := ⟨_, rfl⟩
                rw [← hx] at h3 h3i
                simp only [push_cast, Nat.reduceAdd, Nat.reduceSub, Nat.reduceMul, Nat.reduceLT, Nat.reduceLeDiff, Nat.reduceEqDiff, Nat.reduceMod, Nat.reduceDiv, Int.reduceAdd, Int.reduceSub, Int.reduceMul, Int.reduceLT, Int.reduceLE, Int.reduceEq, Int.reduceNeg, Int.reduceToNat, reduceIte, reduceCtorEq, Int.reduceBEq, Int.reduceBNe, Bool.true_beq, Bool.false_beq, Bool.true_bne, Bool.false_bne, Bool.not_true, Bool.not_false, h3, h3i, ← hx, q16, q15, g16, g15, e1, e2, e3, e4, e5, e6, hpr', hpw']
                intro b39 hb39
                have va : ∀ w : W, Value.agg w.cells.toArray = w.v := fun _ => rfl
                have n15 : ¬ b15 = b39 := (fresh_findS hb39.2.2 g15).2
                simp only [push_cast, Nat.reduceAdd, Nat.reduceSub, Nat.reduceMul, Nat.reduceLT, Nat.reduceLeDiff, Nat.reduceEqDiff, Nat.reduceMod, Nat.reduceDiv, Int.reduceAdd, Int.reduceSub, Int.reduceMul, Int.reduceLT, Int.reduceLE, Int.reduceEq, Int.reduceNeg, Int.reduceToNat, reduceIte, reduceCtorEq, Int.reduceBEq, Int.reduceBNe, Bool.true_beq, Bool.false_beq, Bool.true_bne, Bool.false_bne, Bool.not_true, Bool.not_false, hb39, n15]
                refine ⟨subH_cons hb39.2.2, ?_⟩
                have fq := hbq.2.2
                have f39 := hb39.2.2
                rw [hML] at fq f39 ⊢
                simp only [fresh] at fq f39
                refine useL [⟨b39, 0, .cel 30, [.slice pr' mr cr, .slice pw' mw cw]⟩, ⟨bq, 0, .vec 3 1 2, [.int .i64 n, .int .i64 k6]⟩, ⟨b16, 0, .cel 30, [.slice pr R.length cr, .slice pw W'.length cw]⟩, ⟨b15, 0, .cel 27, [u0, u1]⟩, ⟨b14, 0, .cel 25, [.bool f0, .bool f1, .bool f2]⟩, ⟨b11, 0, .cel 24, c.cells⟩, ⟨b10, 0, .cel 24, b.cells⟩, ⟨b9, 0, .cel 24, a.cells⟩] (setsR_R hs0 hs1 hi0 hi1) (SetQ.rd _ _) hm (by simp only [freshN, hb9, hb10, hb11, hb14, hb15, hb16, fq, f39, and_self]) fun v2 M2 hg2 hL2 hq2 => ?_
                obtain ⟨vr2, vw2, rfl, hr2, hw2⟩ := hq2
                have hr2' := hr2
                have hw2' := hw2
                obtain ⟨p1, c1, rfl, -⟩ := hr2
                obtain ⟨p2, c2, rfl, -⟩ := hw2
                simp only [push_cast, Nat.reduceAdd, Nat.reduceSub, Nat.reduceMul, Nat.reduceLT, Nat.reduceLeDiff, Nat.reduceEqDiff, Nat.reduceMod, Nat.reduceDiv, Int.reduceAdd, Int.reduceSub, Int.reduceMul, Int.reduceLT, Int.reduceLE, Int.reduceEq, Int.reduceNeg, Int.reduceToNat, reduceIte, reduceCtorEq, Int.reduceBEq, Int.reduceBNe, Bool.true_beq, Bool.false_beq, Bool.true_bne, Bool.false_bne, Bool.not_true, Bool.not_false]
                intro b40 hb40
                have hL2' := hL2
                simp only [freshN] at hL2'
                refine drawO gQ2_ok Tryd.mix (Tryd.pl3 33) (by kernel_rfl) ?_
                simp only [push_cast, Nat.reduceAdd, Nat.reduceSub, Nat.reduceMul, Nat.reduceLT, Nat.reduceLeDiff, Nat.reduceEqDiff, Nat.reduceMod, Nat.reduceDiv, Int.reduceAdd, Int.reduceSub, Int.reduceMul, Int.reduceLT, Int.reduceLE, Int.reduceEq, Int.reduceNeg, Int.reduceToNat, reduceIte, reduceCtorEq, Int.reduceBEq, Int.reduceBNe, Bool.true_beq, Bool.false_beq, Bool.true_bne, Bool.false_bne, Bool.not_true, Bool.not_false, hb40, f39, fq, hb16, hb15, hb14, hb11, hb10, beq_self_eq_true, va]
                have hL3 : freshN (⟨b40, 0, .cel 30, [.slice p1 (setsR s0 s1).1.length c1, .slice p2 (setsR s0 s1).2.length c2]⟩ :: [⟨b39, 0, .cel 30, [.slice pr' mr cr, .slice pw' mw cw]⟩, ⟨bq, 0, .vec 3 1 2, [.int .i64 n, .int .i64 k6]⟩, ⟨b16, 0, .cel 30, [.slice pr R.length cr, .slice pw W'.length cw]⟩, ⟨b15, 0, .cel 27, [u0, u1]⟩, ⟨b14, 0, .cel 25, [.bool f0, .bool f1, .bool f2]⟩, ⟨b11, 0, .cel 24, c.cells⟩, ⟨b10, 0, .cel 24, b.cells⟩, ⟨b9, 0, .cel 24, a.cells⟩]) M2 := ⟨by simp only [hb40], hL2⟩
                have hd := derE_behind hL3
                simp only [List.cons_append, List.nil_append] at hd
                have k1 : (R.take 9).length ≤ 400000 := Nat.le_trans (List.length_take_le _ _) (by decide)
                have k2 : (W'.take 9).length ≤ 400000 := Nat.le_trans (List.length_take_le _ _) (by decide)
                have k3 : (setsR s0 s1).1.length ≤ 400000 := Nat.le_trans (setK_len (keysR s0)) (Nat.le_trans (keysR_len s0) (by decide))
                have k4 : (setsR s0 s1).2.length ≤ 400000 := Nat.le_trans (setK_len (keysR s1)) (Nat.le_trans (keysR_len s1) (by decide))
                have d0 := gdeclA_R (cutr.ext hg2.ext) (cutw.ext hg2.ext) k1 k2 _ (roAll_ro M2) (cellsAt_roAll M2)
                refine TakeV.mk hd d0 ?_
                simp only [push_cast, Nat.reduceAdd, Nat.reduceSub, Nat.reduceMul, Nat.reduceLT, Nat.reduceLeDiff, Nat.reduceEqDiff, Nat.reduceMod, Nat.reduceDiv, Int.reduceAdd, Int.reduceSub, Int.reduceMul, Int.reduceLT, Int.reduceLE, Int.reduceEq, Int.reduceNeg, Int.reduceToNat, reduceIte, reduceCtorEq, Int.reduceBEq, Int.reduceBNe, Bool.true_beq, Bool.false_beq, Bool.true_bne, Bool.false_bne, Bool.not_true, Bool.not_false, hb40, f39, fq, hb16, hb15, hb14, hb11, hb10]
                have d1 := rdecl_R (cutr.ext hg2.ext) (cutw.ext hg2.ext) k1 k2 _ (roAll_ro M2) (cellsAt_roAll M2)
                refine TakeV.mk hd d1 ?_
                simp only [push_cast, Nat.reduceAdd, Nat.reduceSub, Nat.reduceMul, Nat.reduceLT, Nat.reduceLeDiff, Nat.reduceEqDiff, Nat.reduceMod, Nat.reduceDiv, Int.reduceAdd, Int.reduceSub, Int.reduceMul, Int.reduceLT, Int.reduceLE, Int.reduceEq, Int.reduceNeg, Int.reduceToNat, reduceIte, reduceCtorEq, Int.reduceBEq, Int.reduceBNe, Bool.true_beq, Bool.false_beq, Bool.true_bne, Bool.false_bne, Bool.not_true, Bool.not_false, hb40, f39, fq, hb16, hb15, hb14, hb11, hb10, beq_self_eq_true]
                have d2 := gdeclA_R hr2' hw2' k3 k4 _ (roAll_ro M2) (cellsAt_roAll M2)
                refine TakeV.mk hd d2 ?_
                simp only [push_cast, Nat.reduceAdd, Nat.reduceSub, Nat.reduceMul, Nat.reduceLT, Nat.reduceLeDiff, Nat.reduceEqDiff, Nat.reduceMod, Nat.reduceDiv, Int.reduceAdd, Int.reduceSub, Int.reduceMul, Int.reduceLT, Int.reduceLE, Int.reduceEq, Int.reduceNeg, Int.reduceToNat, reduceIte, reduceCtorEq, Int.reduceBEq, Int.reduceBNe, Bool.true_beq, Bool.false_beq, Bool.true_bne, Bool.false_bne, Bool.not_true, Bool.not_false, hb40, f39, fq, hb16, hb15, hb14, hb11, hb10]
                have d3 := rdecl_R hr2' hw2' k3 k4 _ (roAll_ro M2) (cellsAt_roAll M2)
                refine TakeV.mk hd d3 ?_
                simp only [push_cast, Nat.reduceAdd, Nat.reduceSub, Nat.reduceMul, Nat.reduceLT, Nat.reduceLeDiff, Nat.reduceEqDiff, Nat.reduceMod, Nat.reduceDiv, Int.reduceAdd, Int.reduceSub, Int.reduceMul, Int.reduceLT, Int.reduceLE, Int.reduceEq, Int.reduceNeg, Int.reduceToNat, reduceIte, reduceCtorEq, Int.reduceBEq, Int.reduceBNe, Bool.true_beq, Bool.false_beq, Bool.true_bne, Bool.false_bne, Bool.not_true, Bool.not_false, hb40, f39, fq, hb16, hb15, hb14, hb11, hb10, beq_self_eq_true]
end Go.Proofs.YtfioapldbajpmaaDoor
