/- Gq: the document's own Declared. -/
import Derived.Test.YtfioapldbajpmaaDoorGp
set_option linter.unusedSimpArgs false
set_option linter.unusedVariables false
namespace Go.Ev
theorem mem_take_succ {l : List KeyT} {k : Nat} {y : KeyT} (h : l[k]? = some y) (x : KeyT) : decide (x ∈ l.take (k + 1)) = (decide (x ∈ l.take k) || decide (y = x)) := by
  rw [List.take_add_one, h]
  simp only [Option.toList_some, List.mem_append, List.mem_singleton, Bool.decide_or]
  congr 1
  exact decide_eq_decide.2 eq_comm
theorem declS_snoc (l : List KeyT) (x : KeyT) : declS (l ++ [x]) = stepD (declS l) x := by
  unfold declS; rw [List.foldl_append]; rfl
end Go.Ev
namespace Go.Proofs.YtfioapldbajpmaaDoor
open Go Go.Ev Go.Proofs
set_option maxRecDepth 100000
set_option maxHeartbeats 4000000
theorem OutKy.find {l : List KeyT} {v : Value} {N : Hp} (h : OutKy l v N) (X : Hp) : ∃ p c, v = .slice p l.length c ∧ (l = [] ∨ ∃ b e, p = some ⟨b, 0, none⟩ ∧ findE (N ++ X) b = some ⟨b, 0, e, l.flatMap KeyT.cells⟩) := by
  rcases h with ⟨h1, h2, rfl, rfl⟩ | ⟨b, c, h0, rfl, hc, hcl, rfl⟩
  · exact ⟨none, 0, by rw [h1], .inl (List.length_eq_zero_iff.1 h1)⟩
  · exact ⟨_, c, rfl, .inr ⟨b, .vec 58 25 c, rfl, by simp [findE]⟩⟩
def plRD : Plans := fun i => if i = 3 then [(0, 9)] else if i = 14 then [(0, 9)] else Tryd.pl34 i
attribute [push_cast] plRD
theorem key_eql (x y : KeyT) : binQ Tryd.prog .eql 58 x.v y.v = some (.bool (decide (x = y))) := KeyT.eql x y (by kernel_rfl) (by kernel_rfl) (by kernel_rfl)
theorem rdecl_ok {M : Hp} {R W' : List KeyT} {vr vw : Value} (hr : LiR KeyT.cells 25 M R vr) (hw : LiR KeyT.cells 25 M W' vw) (hm : marksOf M = []) (hrn : R.length ≤ 400000) (hwn : W'.length ≤ 400000) :
    CallsV Tryd.prog 34 [.agg #[vr, vw]] M (Ret0 (.int .i64 (declI R W'))) := by
  obtain ⟨pr, cr, rfl, hlr⟩ := hr.open (fun x => x.len) (by decide)
  obtain ⟨pw, cw, rfl, hlw⟩ := hw.open (fun x => x.len) (by decide)
  refine callsO (noG_ok _) Tryd.mix plRD Tryd.func34 rfl Tryd.ntmps34 Tryd.results34 rfl (by first | rfl | assumption) (Nat.le_of_ble_eq_true rfl) (by kernel_rfl) ?_
  simp only [push_cast, Nat.reduceAdd, Nat.reduceSub, Nat.reduceMul, Nat.reduceLT, Nat.reduceLeDiff, Nat.reduceEqDiff, Nat.reduceMod, Nat.reduceDiv, Int.reduceAdd, Int.reduceSub, Int.reduceMul, Int.reduceLT, Int.reduceLE, Int.reduceEq, Int.reduceNeg, Int.reduceToNat, reduceIte, reduceCtorEq, Int.reduceBEq, Int.reduceBNe, Bool.true_beq, Bool.false_beq, Bool.true_bne, Bool.false_bne, Bool.not_true, Bool.not_false]
  intro b1 hb1
  refine regO (noG_ok _) ?_
  simp only [push_cast, Nat.reduceAdd, Nat.reduceSub, Nat.reduceMul, Nat.reduceLT, Nat.reduceLeDiff, Nat.reduceEqDiff, Nat.reduceMod, Nat.reduceDiv, Int.reduceAdd, Int.reduceSub, Int.reduceMul, Int.reduceLT, Int.reduceLE, Int.reduceEq, Int.reduceNeg, Int.reduceToNat, reduceIte, reduceCtorEq, Int.reduceBEq, Int.reduceBNe, Bool.true_beq, Bool.false_beq, Bool.true_bne, Bool.false_bne, Bool.not_true, Bool.not_false, hb1]
  intro b14 hb14
  obtain ⟨ML, hML⟩ : ∃ ML : Hp, ML = ⟨b14, 0, .vec 28 1 2, [.slice pr R.length cr, .slice pw W'.length cw]⟩ :: ⟨b1, 0, .cel 30, [.slice pr R.length cr, .slice pw W'.length cw]⟩ :: M := ⟨_, rfl⟩
  have hmL : marksOf ML = [] := by rw [hML]; simp only [marksOf, hm]
  have f14 : findE ML b14 = some ⟨b14, 0, .vec 28 1 2, [.slice pr R.length cr, .slice pw W'.length cw]⟩ := by rw [hML]; simp [findE]
  have hfM : ∀ b e, findE M b = some e → findE ML b = some e := fun b e he => by
    have n1 : ¬ b = b14 := (fresh_findS hb14.2.2 he).2
    have n2 : ¬ b = b1 := (fresh_findS hb1 he).2
    rw [hML]; simp only [findE, n1, n2, if_false]; exact he
  refine (show ∀ {r n c K T}, WpV Tryd.prog r n c K T ML → WpV Tryd.prog r n c K T _ from fun h => by rw [hML] at h; exact h) ?_
  obtain ⟨PP, hPP⟩ : ∃ PP : Nat → List KeyT, PP = fun i => if i = 0 then [] else if i = 1 then R else R ++ W' := ⟨_, rfl⟩
  have P0 : PP 0 = [] := by rw [hPP]; rfl
  have P1 : PP 1 = R := by rw [hPP]; rfl
  have P2 : PP 2 = R ++ W' := by rw [hPP]; rfl
  clear hPP
  refine loopO (noG_ok _) (pl := plRD) Tryd.mix (X := Nat × Value × Hp)
    (fun s => ([(3, s.2.1), (4, .int .i64 (declS (PP s.1)).1), (14, .slice (some ⟨b14, 0, none⟩) 2 2), (15, .int .i64 2), (16, .int .i64 s.1)], s.2.2 ++ ML))
    (fun s => s.1 ≤ 2 ∧ OutKy (declS (PP s.1)).2 s.2.1 s.2.2 ∧ freshN s.2.2 ML) (fun s => 2 - s.1) (0, .slice none 0 0, []) ?_ ?_ (by kernel_rfl) ?_
  · exact ⟨Nat.zero_le _, by dsimp only; rw [P0]; exact .nil _ _, trivial⟩
  · rw [show ((declS (PP 0)).1 : Int) = 0 by rw [P0]; rfl]
    simp only [push_cast, Nat.reduceAdd, Nat.reduceSub, Nat.reduceMul, Nat.reduceLT, Nat.reduceLeDiff, Nat.reduceEqDiff, Nat.reduceMod, Nat.reduceDiv, Int.reduceAdd, Int.reduceSub, Int.reduceMul, Int.reduceLT, Int.reduceLE, Int.reduceEq, Int.reduceNeg, Int.reduceToNat, reduceIte, reduceCtorEq, Int.reduceBEq, Int.reduceBNe, Bool.true_beq, Bool.false_beq, Bool.true_bne, Bool.false_bne, Bool.not_true, Bool.not_false]
    exact subH_self _
  · rintro ⟨i, vo, No⟩ ⟨hi, ho, hf⟩
    dsimp only at hi ho hf ⊢
    have f14' : findE (No ++ ML) b14 = some ⟨b14, 0, .vec 28 1 2, [.slice pr R.length cr, .slice pw W'.length cw]⟩ := by rw [findE_freshN hf (b := b14) f14]; exact f14
    obtain rfl | rfl | rfl : i = 0 ∨ i = 1 ∨ i = 2 := by omega
    · simp only [push_cast, Nat.reduceAdd, Nat.reduceSub, Nat.reduceMul, Nat.reduceLT, Nat.reduceLeDiff, Nat.reduceEqDiff, Nat.reduceMod, Nat.reduceDiv, Int.reduceAdd, Int.reduceSub, Int.reduceMul, Int.reduceLT, Int.reduceLE, Int.reduceEq, Int.reduceNeg, Int.reduceToNat, reduceIte, reduceCtorEq, Int.reduceBEq, Int.reduceBNe, Bool.true_beq, Bool.false_beq, Bool.true_bne, Bool.false_bne, Bool.not_true, Bool.not_false, f14']
      refine loopO (noG_ok _) (pl := plRD) Tryd.mix (X := Nat × Value × Hp)
        (fun s => ([(3, s.2.1), (4, .int .i64 (declS (PP 0 ++ R.take s.1)).1), (6, .slice pr R.length cr), (7, .int .i64 s.1), (14, .slice (some ⟨b14, 0, none⟩) 2 2), (15, .int .i64 2), (16, .int .i64 0)], s.2.2 ++ ML))
        (fun s => s.1 ≤ R.length ∧ OutKy (declS (PP 0 ++ R.take s.1)).2 s.2.1 s.2.2 ∧ freshN s.2.2 ML) (fun s => R.length - s.1) (0, vo, No) ?_ ?_ (by kernel_rfl) ?_
      · exact ⟨Nat.zero_le _, by dsimp only; rw [List.take_zero, List.append_nil]; exact ho, hf⟩
      · rw [List.take_zero, List.append_nil]
        simp only [push_cast, Nat.reduceAdd, Nat.reduceSub, Nat.reduceMul, Nat.reduceLT, Nat.reduceLeDiff, Nat.reduceEqDiff, Nat.reduceMod, Nat.reduceDiv, Int.reduceAdd, Int.reduceSub, Int.reduceMul, Int.reduceLT, Int.reduceLE, Int.reduceEq, Int.reduceNeg, Int.reduceToNat, reduceIte, reduceCtorEq, Int.reduceBEq, Int.reduceBNe, Bool.true_beq, Bool.false_beq, Bool.true_bne, Bool.false_bne, Bool.not_true, Bool.not_false]
        exact subH_self _
      · rintro ⟨j, vq, Nq⟩ ⟨hj, hq, hg⟩
        dsimp only at hj hq hg ⊢
        rcases Nat.lt_or_ge j R.length with hlt | hge
        · obtain ⟨x, hx⟩ : ∃ x, R[j]? = some x := ⟨R[j], List.getElem?_eq_getElem hlt⟩
          obtain h0 | ⟨b, f, d, kd, cs, rfl, he, hat, -, -⟩ := hlr
          · rw [h0] at hlt; exact absurd hlt (Nat.not_lt_zero _)
          obtain ⟨a1, a2⟩ := hat j x hx 0 25 (Nat.le_refl _)
          rw [Nat.add_zero] at a1 a2
          rw [List.drop_zero, x.take25] at a2
          have fb : findE (Nq ++ ML) b = some ⟨b, f, kd, cs⟩ := by rw [findE_freshN hg (b := b) (hfM b _ he)]; exact hfM b _ he
          have i1 : (j : Int) < (R.length : Int) := by omega
          obtain ⟨S, hS⟩ : ∃ S, S = declS (PP 0 ++ R.take j) := ⟨_, rfl⟩
          have hS' : declS (PP 0 ++ R.take (j + 1)) = stepD S x := by
            rw [List.take_add_one, hx, ← List.append_assoc, hS]; exact declS_snoc _ _
          have hle := declS_le (PP 0 ++ R.take j)
          have hpl : (PP 0 ++ R.take j).length ≤ 800000 := by
            rw [List.length_append, List.length_take, P0]
            simp only [List.length_nil]; omega
          rw [← hS] at hq hle ⊢
          obtain ⟨n, q⟩ := S
          dsimp only at hq hle ⊢
          obtain ⟨pq, cq, rfl, hfq⟩ := hq.find ML
          simp only [push_cast, Nat.reduceAdd, Nat.reduceSub, Nat.reduceMul, Nat.reduceLT, Nat.reduceLeDiff, Nat.reduceEqDiff, Nat.reduceMod, Nat.reduceDiv, Int.reduceAdd, Int.reduceSub, Int.reduceMul, Int.reduceLT, Int.reduceLE, Int.reduceEq, Int.reduceNeg, Int.reduceToNat, reduceIte, reduceCtorEq, Int.reduceBEq, Int.reduceBNe, Bool.true_beq, Bool.false_beq, Bool.true_bne, Bool.false_bne, Bool.not_true, Bool.not_false, i1]
          refine loopO (noG_ok _) (pl := plRD) Tryd.mix (X := Nat)
            (fun k => ([(3, .slice pq q.length cq), (4, .int .i64 n), (6, .slice (some ⟨b, f + d, none⟩) R.length cr), (7, .int .i64 j), (8, .bool (decide (x ∈ q.take k))), (9, .int .i64 k), (14, .slice (some ⟨b14, 0, none⟩) 2 2), (15, .int .i64 2), (16, .int .i64 0)], Nq ++ ML))
            (fun k => k ≤ q.length) (fun k => q.length - k) 0 ?_ ?_ (by kernel_rfl) ?_
          · exact Nat.zero_le _
          · simp only [push_cast, Nat.reduceAdd, Nat.reduceSub, Nat.reduceMul, Nat.reduceLT, Nat.reduceLeDiff, Nat.reduceEqDiff, Nat.reduceMod, Nat.reduceDiv, Int.reduceAdd, Int.reduceSub, Int.reduceMul, Int.reduceLT, Int.reduceLE, Int.reduceEq, Int.reduceNeg, Int.reduceToNat, reduceIte, reduceCtorEq, Int.reduceBEq, Int.reduceBNe, Bool.true_beq, Bool.false_beq, Bool.true_bne, Bool.false_bne, Bool.not_true, Bool.not_false, List.not_mem_nil, decide_false]
            exact subH_self _
          · intro k hk
            dsimp only at hk ⊢
            rcases Nat.lt_or_ge k q.length with hk1 | hk1
            · obtain ⟨y, hy⟩ : ∃ y, q[k]? = some y := ⟨q[k], List.getElem?_eq_getElem hk1⟩
              obtain h0 | ⟨bq, eq, rfl, fq⟩ := hfq
              · rw [h0] at hk1; exact absurd hk1 (Nat.not_lt_zero _)
              have hky : List.take 25 (List.drop (k * 25) (q.flatMap KeyT.cells)) = y.cells := by
                have := flatMap_at (c := KeyT.cells) (s := 25) (fun x => KeyT.len x) hy (q := 0) (n := 25) (Nat.le_refl _)
                rw [Nat.add_zero, List.drop_zero, KeyT.take25] at this
                exact this
              have hkl : k * 25 + 25 ≤ (q.flatMap KeyT.cells).length := by rw [flatMap_len (fun x => KeyT.len x)]; omega
              have k1 : (k : Int) < (q.length : Int) := by omega
              have hms := mem_take_succ hy x
              by_cases hin : x ∈ q.take k
              · have d1 : decide (x ∈ q.take k) = true := decide_eq_true hin
                rw [d1, Bool.true_or] at hms
                rw [d1]
                simp only [push_cast, Nat.reduceAdd, Nat.reduceSub, Nat.reduceMul, Nat.reduceLT, Nat.reduceLeDiff, Nat.reduceEqDiff, Nat.reduceMod, Nat.reduceDiv, Int.reduceAdd, Int.reduceSub, Int.reduceMul, Int.reduceLT, Int.reduceLE, Int.reduceEq, Int.reduceNeg, Int.reduceToNat, reduceIte, reduceCtorEq, Int.reduceBEq, Int.reduceBNe, Bool.true_beq, Bool.false_beq, Bool.true_bne, Bool.false_bne, Bool.not_true, Bool.not_false, k1, hk1, wrap_i64' (show -9223372036854775808 ≤ (k : Int) + 1 ∧ (k : Int) + 1 ≤ 9223372036854775807 by omega)]
                exact ⟨k + 1, hk1, by omega, ⟨by rw [hms], rfl⟩, subH_self _⟩
              · have d1 : decide (x ∈ q.take k) = false := decide_eq_false hin
                rw [d1, Bool.false_or] at hms
                rw [d1]
                simp only [push_cast, Nat.reduceAdd, Nat.reduceSub, Nat.reduceMul, Nat.reduceLT, Nat.reduceLeDiff, Nat.reduceEqDiff, Nat.reduceMod, Nat.reduceDiv, Int.reduceAdd, Int.reduceSub, Int.reduceMul, Int.reduceLT, Int.reduceLE, Int.reduceEq, Int.reduceNeg, Int.reduceToNat, reduceIte, reduceCtorEq, Int.reduceBEq, Int.reduceBNe, Bool.true_beq, Bool.false_beq, Bool.true_bne, Bool.false_bne, Bool.not_true, Bool.not_false, key_eql, k1, hk1, i1, fq, fb, hky, hkl, a1, a2, wrap_i64' (show -9223372036854775808 ≤ (k : Int) + 1 ∧ (k : Int) + 1 ≤ 9223372036854775807 by omega)]
                exact ⟨k + 1, hk1, by omega, ⟨by rw [hms], rfl⟩, subH_self _⟩
            · obtain rfl : k = q.length := by omega
              rw [List.take_length]
              simp only [push_cast, Nat.reduceAdd, Nat.reduceSub, Nat.reduceMul, Nat.reduceLT, Nat.reduceLeDiff, Nat.reduceEqDiff, Nat.reduceMod, Nat.reduceDiv, Int.reduceAdd, Int.reduceSub, Int.reduceMul, Int.reduceLT, Int.reduceLE, Int.reduceEq, Int.reduceNeg, Int.reduceToNat, reduceIte, reduceCtorEq, Int.reduceBEq, Int.reduceBNe, Bool.true_beq, Bool.false_beq, Bool.true_bne, Bool.false_bne, Bool.not_true, Bool.not_false, Nat.lt_irrefl]
              refine regO (noG_ok _) ?_
              by_cases hin : x ∈ q
              · have d1 : decide (x ∈ q) = true := decide_eq_true hin
                have hst : stepD (n, q) x = (n, q) := if_pos hin
                rw [hst] at hS'
                simp only [push_cast, Nat.reduceAdd, Nat.reduceSub, Nat.reduceMul, Nat.reduceLT, Nat.reduceLeDiff, Nat.reduceEqDiff, Nat.reduceMod, Nat.reduceDiv, Int.reduceAdd, Int.reduceSub, Int.reduceMul, Int.reduceLT, Int.reduceLE, Int.reduceEq, Int.reduceNeg, Int.reduceToNat, reduceIte, reduceCtorEq, Int.reduceBEq, Int.reduceBNe, Bool.true_beq, Bool.false_beq, Bool.true_bne, Bool.false_bne, Bool.not_true, Bool.not_false, d1, wrap_i64' (show -9223372036854775808 ≤ (j : Int) + 1 ∧ (j : Int) + 1 ≤ 9223372036854775807 by omega)]
                refine ⟨(j + 1, .slice pq q.length cq, Nq), ⟨hlt, by dsimp only; rw [hS']; exact hq, hg⟩, by dsimp only; omega, ?_⟩
                dsimp only
                rw [hS']
                exact ⟨⟨rfl, rfl, rfl⟩, subH_self _, rfl⟩
              · have d1 : decide (x ∈ q) = false := decide_eq_false hin
                have hst : stepD (n, q) x = (n + costK x, q ++ [x]) := if_neg hin
                rw [hst] at hS'
                simp only [push_cast, Nat.reduceAdd, Nat.reduceSub, Nat.reduceMul, Nat.reduceLT, Nat.reduceLeDiff, Nat.reduceEqDiff, Nat.reduceMod, Nat.reduceDiv, Int.reduceAdd, Int.reduceSub, Int.reduceMul, Int.reduceLT, Int.reduceLE, Int.reduceEq, Int.reduceNeg, Int.reduceToNat, reduceIte, reduceCtorEq, Int.reduceBEq, Int.reduceBNe, Bool.true_beq, Bool.false_beq, Bool.true_bne, Bool.false_bne, Bool.not_true, Bool.not_false, d1, fb, i1, a1, a2]
                intro b50 hb50
                have nb : ¬ b = b50 := (fresh_findS hb50 fb).2
                have hbL : fresh b50 ML := (fresh_app_iff.1 hb50).2
                have fbL : findE ML b = some ⟨b, f, kd, cs⟩ := hfM b _ he
                refine append_out1 (e := 58) (sz := 25) (by_ := 56) (n := q.length) (m := 1) (ys := x.cells) hq hb50 (by simp only [push_cast, Nat.reduceAdd, Nat.reduceSub, Nat.reduceMul, Nat.reduceLT, Nat.reduceLeDiff, Nat.reduceEqDiff, Nat.reduceMod, Nat.reduceDiv, Int.reduceAdd, Int.reduceSub, Int.reduceMul, Int.reduceLT, Int.reduceLE, Int.reduceEq, Int.reduceNeg, Int.reduceToNat, reduceIte, reduceCtorEq, Int.reduceBEq, Int.reduceBNe, Bool.true_beq, Bool.false_beq, Bool.true_bne, Bool.false_bne, Bool.not_true, Bool.not_false]) (by simp only [push_cast, Nat.reduceAdd, Nat.reduceSub, Nat.reduceMul, Nat.reduceLT, Nat.reduceLeDiff, Nat.reduceEqDiff, Nat.reduceMod, Nat.reduceDiv, Int.reduceAdd, Int.reduceSub, Int.reduceMul, Int.reduceLT, Int.reduceLE, Int.reduceEq, Int.reduceNeg, Int.reduceToNat, reduceIte, reduceCtorEq, Int.reduceBEq, Int.reduceBNe, Bool.true_beq, Bool.false_beq, Bool.true_bne, Bool.false_bne, Bool.not_true, Bool.not_false]) x.len x.all1 (by unfold two47; omega) fun v2 N2 ho2 hf2 => ?_
                have fb2 : findE (N2 ++ ⟨b50, 0, .vec 58 25 1, x.cells⟩ :: ML) b = some ⟨b, f, kd, cs⟩ := by
                  have h0 : findE (⟨b50, 0, .vec 58 25 1, x.cells⟩ :: ML) b = some ⟨b, f, kd, cs⟩ := by simp only [findE, nb, if_false]; exact fbL
                  rw [findE_freshN hf2 (b := b) h0]; exact h0
                obtain ⟨a3, a4⟩ := hat j x hx 20 1 (by decide)
                rw [x.slot1] at a4
                have hOK : OutKy (q ++ [x]) v2 N2 := by
                  unfold OutKy
                  rw [keyC_app, keyC_one, List.length_append]
                  exact ho2
                cases hsl : x.slot
                · have ec : costK x = 2400 := by unfold costK; rw [hsl]; rfl
                  rw [hsl] at a4
                  simp only [push_cast, Nat.reduceAdd, Nat.reduceSub, Nat.reduceMul, Nat.reduceLT, Nat.reduceLeDiff, Nat.reduceEqDiff, Nat.reduceMod, Nat.reduceDiv, Int.reduceAdd, Int.reduceSub, Int.reduceMul, Int.reduceLT, Int.reduceLE, Int.reduceEq, Int.reduceNeg, Int.reduceToNat, reduceIte, reduceCtorEq, Int.reduceBEq, Int.reduceBNe, Bool.true_beq, Bool.false_beq, Bool.true_bne, Bool.false_bne, Bool.not_true, Bool.not_false, fb2, i1, a3, a4, wrap_i64' (show -9223372036854775808 ≤ (n : Int) + 2400 ∧ (n : Int) + 2400 ≤ 9223372036854775807 by omega), wrap_i64' (show -9223372036854775808 ≤ (j : Int) + 1 ∧ (j : Int) + 1 ≤ 9223372036854775807 by omega)]
                  refine ⟨(j + 1, v2, N2), ⟨hlt, by dsimp only; rw [hS']; exact hOK, freshN_cons hf2⟩, by dsimp only; omega, ?_⟩
                  dsimp only
                  rw [hS', ec]
                  refine ⟨⟨rfl, rfl, rfl⟩, subH_pre (subH_cons hbL) _, by simp only [marks_append, marksOf, ho2.wr.2, hq.wr.2]⟩
                · have ec : costK x = 1900 := by unfold costK; rw [hsl]; rfl
                  rw [hsl] at a4
                  simp only [push_cast, Nat.reduceAdd, Nat.reduceSub, Nat.reduceMul, Nat.reduceLT, Nat.reduceLeDiff, Nat.reduceEqDiff, Nat.reduceMod, Nat.reduceDiv, Int.reduceAdd, Int.reduceSub, Int.reduceMul, Int.reduceLT, Int.reduceLE, Int.reduceEq, Int.reduceNeg, Int.reduceToNat, reduceIte, reduceCtorEq, Int.reduceBEq, Int.reduceBNe, Bool.true_beq, Bool.false_beq, Bool.true_bne, Bool.false_bne, Bool.not_true, Bool.not_false, fb2, i1, a3, a4, wrap_i64' (show -9223372036854775808 ≤ (n : Int) + 1900 ∧ (n : Int) + 1900 ≤ 9223372036854775807 by omega), wrap_i64' (show -9223372036854775808 ≤ (j : Int) + 1 ∧ (j : Int) + 1 ≤ 9223372036854775807 by omega)]
                  refine ⟨(j + 1, v2, N2), ⟨hlt, by dsimp only; rw [hS']; exact hOK, freshN_cons hf2⟩, by dsimp only; omega, ?_⟩
                  dsimp only
                  rw [hS', ec]
                  refine ⟨⟨rfl, rfl, rfl⟩, subH_pre (subH_cons hbL) _, by simp only [marks_append, marksOf, ho2.wr.2, hq.wr.2]⟩
        · obtain rfl : j = R.length := by omega
          have hPe : PP 0 ++ R.take R.length = PP 1 := by rw [P0, P1, List.take_length]; rfl
          rw [hPe] at hq ⊢
          simp only [push_cast, Nat.reduceAdd, Nat.reduceSub, Nat.reduceMul, Nat.reduceLT, Nat.reduceLeDiff, Nat.reduceEqDiff, Nat.reduceMod, Nat.reduceDiv, Int.reduceAdd, Int.reduceSub, Int.reduceMul, Int.reduceLT, Int.reduceLE, Int.reduceEq, Int.reduceNeg, Int.reduceToNat, reduceIte, reduceCtorEq, Int.reduceBEq, Int.reduceBNe, Bool.true_beq, Bool.false_beq, Bool.true_bne, Bool.false_bne, Bool.not_true, Bool.not_false, Nat.lt_irrefl]
          exact ⟨(1, vq, Nq), ⟨by dsimp only; omega, hq, hg⟩, by dsimp only; omega, ⟨rfl, rfl, rfl⟩, subH_self _, rfl⟩
    · simp only [push_cast, Nat.reduceAdd, Nat.reduceSub, Nat.reduceMul, Nat.reduceLT, Nat.reduceLeDiff, Nat.reduceEqDiff, Nat.reduceMod, Nat.reduceDiv, Int.reduceAdd, Int.reduceSub, Int.reduceMul, Int.reduceLT, Int.reduceLE, Int.reduceEq, Int.reduceNeg, Int.reduceToNat, reduceIte, reduceCtorEq, Int.reduceBEq, Int.reduceBNe, Bool.true_beq, Bool.false_beq, Bool.true_bne, Bool.false_bne, Bool.not_true, Bool.not_false, f14']
      refine loopO (noG_ok _) (pl := plRD) Tryd.mix (X := Nat × Value × Hp)
        (fun s => ([(3, s.2.1), (4, .int .i64 (declS (PP 1 ++ W'.take s.1)).1), (6, .slice pw W'.length cw), (7, .int .i64 s.1), (14, .slice (some ⟨b14, 0, none⟩) 2 2), (15, .int .i64 2), (16, .int .i64 1)], s.2.2 ++ ML))
        (fun s => s.1 ≤ W'.length ∧ OutKy (declS (PP 1 ++ W'.take s.1)).2 s.2.1 s.2.2 ∧ freshN s.2.2 ML) (fun s => W'.length - s.1) (0, vo, No) ?_ ?_ (by kernel_rfl) ?_
      · exact ⟨Nat.zero_le _, by dsimp only; rw [List.take_zero, List.append_nil]; exact ho, hf⟩
      · rw [List.take_zero, List.append_nil]
        simp only [push_cast, Nat.reduceAdd, Nat.reduceSub, Nat.reduceMul, Nat.reduceLT, Nat.reduceLeDiff, Nat.reduceEqDiff, Nat.reduceMod, Nat.reduceDiv, Int.reduceAdd, Int.reduceSub, Int.reduceMul, Int.reduceLT, Int.reduceLE, Int.reduceEq, Int.reduceNeg, Int.reduceToNat, reduceIte, reduceCtorEq, Int.reduceBEq, Int.reduceBNe, Bool.true_beq, Bool.false_beq, Bool.true_bne, Bool.false_bne, Bool.not_true, Bool.not_false]
        exact subH_self _
      · rintro ⟨j, vq, Nq⟩ ⟨hj, hq, hg⟩
        dsimp only at hj hq hg ⊢
        rcases Nat.lt_or_ge j W'.length with hlt | hge
        · obtain ⟨x, hx⟩ : ∃ x, W'[j]? = some x := ⟨W'[j], List.getElem?_eq_getElem hlt⟩
          obtain h0 | ⟨b, f, d, kd, cs, rfl, he, hat, -, -⟩ := hlw
          · rw [h0] at hlt; exact absurd hlt (Nat.not_lt_zero _)
          obtain ⟨a1, a2⟩ := hat j x hx 0 25 (Nat.le_refl _)
          rw [Nat.add_zero] at a1 a2
          rw [List.drop_zero, x.take25] at a2
          have fb : findE (Nq ++ ML) b = some ⟨b, f, kd, cs⟩ := by rw [findE_freshN hg (b := b) (hfM b _ he)]; exact hfM b _ he
          have i1 : (j : Int) < (W'.length : Int) := by omega
          obtain ⟨S, hS⟩ : ∃ S, S = declS (PP 1 ++ W'.take j) := ⟨_, rfl⟩
          have hS' : declS (PP 1 ++ W'.take (j + 1)) = stepD S x := by
            rw [List.take_add_one, hx, ← List.append_assoc, hS]; exact declS_snoc _ _
          have hle := declS_le (PP 1 ++ W'.take j)
          have hpl : (PP 1 ++ W'.take j).length ≤ 800000 := by
            rw [List.length_append, List.length_take, P1]
            omega
          rw [← hS] at hq hle ⊢
          obtain ⟨n, q⟩ := S
          dsimp only at hq hle ⊢
          obtain ⟨pq, cq, rfl, hfq⟩ := hq.find ML
          simp only [push_cast, Nat.reduceAdd, Nat.reduceSub, Nat.reduceMul, Nat.reduceLT, Nat.reduceLeDiff, Nat.reduceEqDiff, Nat.reduceMod, Nat.reduceDiv, Int.reduceAdd, Int.reduceSub, Int.reduceMul, Int.reduceLT, Int.reduceLE, Int.reduceEq, Int.reduceNeg, Int.reduceToNat, reduceIte, reduceCtorEq, Int.reduceBEq, Int.reduceBNe, Bool.true_beq, Bool.false_beq, Bool.true_bne, Bool.false_bne, Bool.not_true, Bool.not_false, i1]
          refine loopO (noG_ok _) (pl := plRD) Tryd.mix (X := Nat)
            (fun k => ([(3, .slice pq q.length cq), (4, .int .i64 n), (6, .slice (some ⟨b, f + d, none⟩) W'.length cw), (7, .int .i64 j), (8, .bool (decide (x ∈ q.take k))), (9, .int .i64 k), (14, .slice (some ⟨b14, 0, none⟩) 2 2), (15, .int .i64 2), (16, .int .i64 1)], Nq ++ ML))
            (fun k => k ≤ q.length) (fun k => q.length - k) 0 ?_ ?_ (by kernel_rfl) ?_
          · exact Nat.zero_le _
          · simp only [push_cast, Nat.reduceAdd, Nat.reduceSub, Nat.reduceMul, Nat.reduceLT, Nat.reduceLeDiff, Nat.reduceEqDiff, Nat.reduceMod, Nat.reduceDiv, Int.reduceAdd, Int.reduceSub, Int.reduceMul, Int.reduceLT, Int.reduceLE, Int.reduceEq, Int.reduceNeg, Int.reduceToNat, reduceIte, reduceCtorEq, Int.reduceBEq, Int.reduceBNe, Bool.true_beq, Bool.false_beq, Bool.true_bne, Bool.false_bne, Bool.not_true, Bool.not_false, List.not_mem_nil, decide_false]
            exact subH_self _
          · intro k hk
            dsimp only at hk ⊢
            rcases Nat.lt_or_ge k q.length with hk1 | hk1
            · obtain ⟨y, hy⟩ : ∃ y, q[k]? = some y := ⟨q[k], List.getElem?_eq_getElem hk1⟩
              obtain h0 | ⟨bq, eq, rfl, fq⟩ := hfq
              · rw [h0] at hk1; exact absurd hk1 (Nat.not_lt_zero _)
              have hky : List.take 25 (List.drop (k * 25) (q.flatMap KeyT.cells)) = y.cells := by
                have := flatMap_at (c := KeyT.cells) (s := 25) (fun x => KeyT.len x) hy (q := 0) (n := 25) (Nat.le_refl _)
                rw [Nat.add_zero, List.drop_zero, KeyT.take25] at this
                exact this
              have hkl : k * 25 + 25 ≤ (q.flatMap KeyT.cells).length := by rw [flatMap_len (fun x => KeyT.len x)]; omega
              have k1 : (k : Int) < (q.length : Int) := by omega
              have hms := mem_take_succ hy x
              by_cases hin : x ∈ q.take k
              · have d1 : decide (x ∈ q.take k) = true := decide_eq_true hin
                rw [d1, Bool.true_or] at hms
                rw [d1]
                simp only [push_cast, Nat.reduceAdd, Nat.reduceSub, Nat.reduceMul, Nat.reduceLT, Nat.reduceLeDiff, Nat.reduceEqDiff, Nat.reduceMod, Nat.reduceDiv, Int.reduceAdd, Int.reduceSub, Int.reduceMul, Int.reduceLT, Int.reduceLE, Int.reduceEq, Int.reduceNeg, Int.reduceToNat, reduceIte, reduceCtorEq, Int.reduceBEq, Int.reduceBNe, Bool.true_beq, Bool.false_beq, Bool.true_bne, Bool.false_bne, Bool.not_true, Bool.not_false, k1, hk1, wrap_i64' (show -9223372036854775808 ≤ (k : Int) + 1 ∧ (k : Int) + 1 ≤ 9223372036854775807 by omega)]
                exact ⟨k + 1, hk1, by omega, ⟨by rw [hms], rfl⟩, subH_self _⟩
              · have d1 : decide (x ∈ q.take k) = false := decide_eq_false hin
                rw [d1, Bool.false_or] at hms
                rw [d1]
                simp only [push_cast, Nat.reduceAdd, Nat.reduceSub, Nat.reduceMul, Nat.reduceLT, Nat.reduceLeDiff, Nat.reduceEqDiff, Nat.reduceMod, Nat.reduceDiv, Int.reduceAdd, Int.reduceSub, Int.reduceMul, Int.reduceLT, Int.reduceLE, Int.reduceEq, Int.reduceNeg, Int.reduceToNat, reduceIte, reduceCtorEq, Int.reduceBEq, Int.reduceBNe, Bool.true_beq, Bool.false_beq, Bool.true_bne, Bool.false_bne, Bool.not_true, Bool.not_false, key_eql, k1, hk1, i1, fq, fb, hky, hkl, a1, a2, wrap_i64' (show -9223372036854775808 ≤ (k : Int) + 1 ∧ (k : Int) + 1 ≤ 9223372036854775807 by omega)]
                exact ⟨k + 1, hk1, by omega, ⟨by rw [hms], rfl⟩, subH_self _⟩
            · obtain rfl : k = q.length := by omega
              rw [List.take_length]
              simp only [push_cast, Nat.reduceAdd, Nat.reduceSub, Nat.reduceMul, Nat.reduceLT, Nat.reduceLeDiff, Nat.reduceEqDiff, Nat.reduceMod, Nat.reduceDiv, Int.reduceAdd, Int.reduceSub, Int.reduceMul, Int.reduceLT, Int.reduceLE, Int.reduceEq, Int.reduceNeg, Int.reduceToNat, reduceIte, reduceCtorEq, Int.reduceBEq, Int.reduceBNe, Bool.true_beq, Bool.false_beq, Bool.true_bne, Bool.false_bne, Bool.not_true, Bool.not_false, Nat.lt_irrefl]
              refine regO (noG_ok _) ?_
              by_cases hin : x ∈ q
              · have d1 : decide (x ∈ q) = true := decide_eq_true hin
                have hst : stepD (n, q) x = (n, q) := if_pos hin
                rw [hst] at hS'
                simp only [push_cast, Nat.reduceAdd, Nat.reduceSub, Nat.reduceMul, Nat.reduceLT, Nat.reduceLeDiff, Nat.reduceEqDiff, Nat.reduceMod, Nat.reduceDiv, Int.reduceAdd, Int.reduceSub, Int.reduceMul, Int.reduceLT, Int.reduceLE, Int.reduceEq, Int.reduceNeg, Int.reduceToNat, reduceIte, reduceCtorEq, Int.reduceBEq, Int.reduceBNe, Bool.true_beq, Bool.false_beq, Bool.true_bne, Bool.false_bne, Bool.not_true, Bool.not_false, d1, wrap_i64' (show -9223372036854775808 ≤ (j : Int) + 1 ∧ (j : Int) + 1 ≤ 9223372036854775807 by omega)]
                refine ⟨(j + 1, .slice pq q.length cq, Nq), ⟨hlt, by dsimp only; rw [hS']; exact hq, hg⟩, by dsimp only; omega, ?_⟩
                dsimp only
                rw [hS']
                exact ⟨⟨rfl, rfl, rfl⟩, subH_self _, rfl⟩
              · have d1 : decide (x ∈ q) = false := decide_eq_false hin
                have hst : stepD (n, q) x = (n + costK x, q ++ [x]) := if_neg hin
                rw [hst] at hS'
                simp only [push_cast, Nat.reduceAdd, Nat.reduceSub, Nat.reduceMul, Nat.reduceLT, Nat.reduceLeDiff, Nat.reduceEqDiff, Nat.reduceMod, Nat.reduceDiv, Int.reduceAdd, Int.reduceSub, Int.reduceMul, Int.reduceLT, Int.reduceLE, Int.reduceEq, Int.reduceNeg, Int.reduceToNat, reduceIte, reduceCtorEq, Int.reduceBEq, Int.reduceBNe, Bool.true_beq, Bool.false_beq, Bool.true_bne, Bool.false_bne, Bool.not_true, Bool.not_false, d1, fb, i1, a1, a2]
                intro b50 hb50
                have nb : ¬ b = b50 := (fresh_findS hb50 fb).2
                have hbL : fresh b50 ML := (fresh_app_iff.1 hb50).2
                have fbL : findE ML b = some ⟨b, f, kd, cs⟩ := hfM b _ he
                refine append_out1 (e := 58) (sz := 25) (by_ := 56) (n := q.length) (m := 1) (ys := x.cells) hq hb50 (by simp only [push_cast, Nat.reduceAdd, Nat.reduceSub, Nat.reduceMul, Nat.reduceLT, Nat.reduceLeDiff, Nat.reduceEqDiff, Nat.reduceMod, Nat.reduceDiv, Int.reduceAdd, Int.reduceSub, Int.reduceMul, Int.reduceLT, Int.reduceLE, Int.reduceEq, Int.reduceNeg, Int.reduceToNat, reduceIte, reduceCtorEq, Int.reduceBEq, Int.reduceBNe, Bool.true_beq, Bool.false_beq, Bool.true_bne, Bool.false_bne, Bool.not_true, Bool.not_false]) (by simp only [push_cast, Nat.reduceAdd, Nat.reduceSub, Nat.reduceMul, Nat.reduceLT, Nat.reduceLeDiff, Nat.reduceEqDiff, Nat.reduceMod, Nat.reduceDiv, Int.reduceAdd, Int.reduceSub, Int.reduceMul, Int.reduceLT, Int.reduceLE, Int.reduceEq, Int.reduceNeg, Int.reduceToNat, reduceIte, reduceCtorEq, Int.reduceBEq, Int.reduceBNe, Bool.true_beq, Bool.false_beq, Bool.true_bne, Bool.false_bne, Bool.not_true, Bool.not_false]) x.len x.all1 (by unfold two47; omega) fun v2 N2 ho2 hf2 => ?_
                have fb2 : findE (N2 ++ ⟨b50, 0, .vec 58 25 1, x.cells⟩ :: ML) b = some ⟨b, f, kd, cs⟩ := by
                  have h0 : findE (⟨b50, 0, .vec 58 25 1, x.cells⟩ :: ML) b = some ⟨b, f, kd, cs⟩ := by simp only [findE, nb, if_false]; exact fbL
                  rw [findE_freshN hf2 (b := b) h0]; exact h0
                obtain ⟨a3, a4⟩ := hat j x hx 20 1 (by decide)
                rw [x.slot1] at a4
                have hOK : OutKy (q ++ [x]) v2 N2 := by
                  unfold OutKy
                  rw [keyC_app, keyC_one, List.length_append]
                  exact ho2
                cases hsl : x.slot
                · have ec : costK x = 2400 := by unfold costK; rw [hsl]; rfl
                  rw [hsl] at a4
                  simp only [push_cast, Nat.reduceAdd, Nat.reduceSub, Nat.reduceMul, Nat.reduceLT, Nat.reduceLeDiff, Nat.reduceEqDiff, Nat.reduceMod, Nat.reduceDiv, Int.reduceAdd, Int.reduceSub, Int.reduceMul, Int.reduceLT, Int.reduceLE, Int.reduceEq, Int.reduceNeg, Int.reduceToNat, reduceIte, reduceCtorEq, Int.reduceBEq, Int.reduceBNe, Bool.true_beq, Bool.false_beq, Bool.true_bne, Bool.false_bne, Bool.not_true, Bool.not_false, fb2, i1, a3, a4, wrap_i64' (show -9223372036854775808 ≤ (n : Int) + 2400 ∧ (n : Int) + 2400 ≤ 9223372036854775807 by omega), wrap_i64' (show -9223372036854775808 ≤ (j : Int) + 1 ∧ (j : Int) + 1 ≤ 9223372036854775807 by omega)]
                  refine ⟨(j + 1, v2, N2), ⟨hlt, by dsimp only; rw [hS']; exact hOK, freshN_cons hf2⟩, by dsimp only; omega, ?_⟩
                  dsimp only
                  rw [hS', ec]
                  refine ⟨⟨rfl, rfl, rfl⟩, subH_pre (subH_cons hbL) _, by simp only [marks_append, marksOf, ho2.wr.2, hq.wr.2]⟩
                · have ec : costK x = 1900 := by unfold costK; rw [hsl]; rfl
                  rw [hsl] at a4
                  simp only [push_cast, Nat.reduceAdd, Nat.reduceSub, Nat.reduceMul, Nat.reduceLT, Nat.reduceLeDiff, Nat.reduceEqDiff, Nat.reduceMod, Nat.reduceDiv, Int.reduceAdd, Int.reduceSub, Int.reduceMul, Int.reduceLT, Int.reduceLE, Int.reduceEq, Int.reduceNeg, Int.reduceToNat, reduceIte, reduceCtorEq, Int.reduceBEq, Int.reduceBNe, Bool.true_beq, Bool.false_beq, Bool.true_bne, Bool.false_bne, Bool.not_true, Bool.not_false, fb2, i1, a3, a4, wrap_i64' (show -9223372036854775808 ≤ (n : Int) + 1900 ∧ (n : Int) + 1900 ≤ 9223372036854775807 by omega), wrap_i64' (show -9223372036854775808 ≤ (j : Int) + 1 ∧ (j : Int) + 1 ≤ 9223372036854775807 by omega)]
                  refine ⟨(j + 1, v2, N2), ⟨hlt, by dsimp only; rw [hS']; exact hOK, freshN_cons hf2⟩, by dsimp only; omega, ?_⟩
                  dsimp only
                  rw [hS', ec]
                  refine ⟨⟨rfl, rfl, rfl⟩, subH_pre (subH_cons hbL) _, by simp only [marks_append, marksOf, ho2.wr.2, hq.wr.2]⟩
        · obtain rfl : j = W'.length := by omega
          have hPe : PP 1 ++ W'.take W'.length = PP 2 := by rw [P1, P2, List.take_length]
          rw [hPe] at hq ⊢
          simp only [push_cast, Nat.reduceAdd, Nat.reduceSub, Nat.reduceMul, Nat.reduceLT, Nat.reduceLeDiff, Nat.reduceEqDiff, Nat.reduceMod, Nat.reduceDiv, Int.reduceAdd, Int.reduceSub, Int.reduceMul, Int.reduceLT, Int.reduceLE, Int.reduceEq, Int.reduceNeg, Int.reduceToNat, reduceIte, reduceCtorEq, Int.reduceBEq, Int.reduceBNe, Bool.true_beq, Bool.false_beq, Bool.true_bne, Bool.false_bne, Bool.not_true, Bool.not_false, Nat.lt_irrefl]
          exact ⟨(2, vq, Nq), ⟨by dsimp only; omega, hq, hg⟩, by dsimp only; omega, ⟨rfl, rfl, rfl⟩, subH_self _, rfl⟩
    · have e : ((declS (PP 2)).1 : Int) = (declI R W' : Int) := by rw [P2, declI_eq]
      rw [e]
      simp only [push_cast, Nat.reduceAdd, Nat.reduceSub, Nat.reduceMul, Nat.reduceLT, Nat.reduceLeDiff, Nat.reduceEqDiff, Nat.reduceMod, Nat.reduceDiv, Int.reduceAdd, Int.reduceSub, Int.reduceMul, Int.reduceLT, Int.reduceLE, Int.reduceEq, Int.reduceNeg, Int.reduceToNat, reduceIte, reduceCtorEq, Int.reduceBEq, Int.reduceBNe, Bool.true_beq, Bool.false_beq, Bool.true_bne, Bool.false_bne, Bool.not_true, Bool.not_false]
theorem rdecl_R {M : Hp} {R W' : List KeyT} {vr vw : Value} (hr : LiR KeyT.cells 25 M R vr) (hw : LiR KeyT.cells 25 M W' vw) (hrn : R.length ≤ 400000) (hwn : W'.length ≤ 400000) :
    ∀ M0, roM M0 → cellsAt M0 = cellsAt M → CallsV Tryd.prog 34 [.agg #[vr, vw]] M0 (Ret0 (.int .i64 (declI R W'))) :=
  fun _ h he => rdecl_ok (hr.congr he.symm) (hw.congr he.symm) h.marks hrn hwn
end Go.Proofs.YtfioapldbajpmaaDoor
