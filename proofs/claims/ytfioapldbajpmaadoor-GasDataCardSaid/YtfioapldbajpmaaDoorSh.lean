/- Sh: the document's Bytes of a word. -/
import Derived.Test.YtfioapldbajpmaaDoorSf
import Derived.Test.YtfioapldbajpmaaDoorWf
set_option linter.unusedSimpArgs false
set_option linter.unusedVariables false
namespace Go.Proofs.YtfioapldbajpmaaDoor
open Go Go.Ev Go.Proofs
set_option maxRecDepth 100000
set_option maxHeartbeats 4000000
theorem refBytes (w : W) : CallsV Tryd.prog 47 [w.v] [] (Ret0 (.string ⟨(wbytes w).toArray⟩)) := by
  refine callsO (noG_ok _) Tryd.mix Tryd.pl47 Tryd.func47 rfl Tryd.ntmps47 Tryd.results47 rfl (by first | rfl | assumption) (Nat.le_of_ble_eq_true rfl) (by kernel_rfl) ?_
  simp only [push_cast, Nat.reduceAdd, Nat.reduceSub, Nat.reduceMul, Nat.reduceLT, Nat.reduceLeDiff, Nat.reduceEqDiff, Nat.reduceMod, Nat.reduceDiv, Int.reduceAdd, Int.reduceSub, Int.reduceMul, Int.reduceLT, Int.reduceLE, Int.reduceEq, Int.reduceNeg, Int.reduceToNat, reduceIte, reduceCtorEq, Int.reduceBEq, Int.reduceBNe, Bool.true_beq, Bool.false_beq, Bool.true_bne, Bool.false_bne, Bool.not_true, Bool.not_false]
  intro b1
  refine (digits_ok w).use trivial fun v1 N1 ho1 => ⟨ho1.wr.1, ho1.wr.2, fun hf1 => ?_⟩
  obtain ⟨bx, cx, rfl, hcx, -, rfl⟩ := ho1.pos (by decide)
  simp only [push_cast, Nat.reduceAdd, Nat.reduceSub, Nat.reduceMul, Nat.reduceLT, Nat.reduceLeDiff, Nat.reduceEqDiff, Nat.reduceMod, Nat.reduceDiv, Int.reduceAdd, Int.reduceSub, Int.reduceMul, Int.reduceLT, Int.reduceLE, Int.reduceEq, Int.reduceNeg, Int.reduceToNat, reduceIte, reduceCtorEq, Int.reduceBEq, Int.reduceBNe, Bool.true_beq, Bool.false_beq, Bool.true_bne, Bool.false_bne, Bool.not_true, Bool.not_false] at hf1
  obtain ⟨Ex, hEx⟩ : ∃ e : Ent, e = ⟨bx, 0, .vec 3 1 cx, zs (digs w.num 32)⟩ := ⟨_, rfl⟩
  have Exk : Ex.kind = .vec 3 1 cx := by rw [hEx]
  have Exb : Ex.blk = bx := by rw [hEx]
  have Exo : Ex.off = 0 := by rw [hEx]
  have Exl : Ex.cells.length = 32 := by rw [hEx]; show (zs _).length = 32; rw [zs_len, digs_len]
  have Exm : marksOf [Ex] = [] := by rw [hEx]; rfl
  rw [← hEx]
  simp only [push_cast, Nat.reduceAdd, Nat.reduceSub, Nat.reduceMul, Nat.reduceLT, Nat.reduceLeDiff, Nat.reduceEqDiff, Nat.reduceMod, Nat.reduceDiv, Int.reduceAdd, Int.reduceSub, Int.reduceMul, Int.reduceLT, Int.reduceLE, Int.reduceEq, Int.reduceNeg, Int.reduceToNat, reduceIte, reduceCtorEq, Int.reduceBEq, Int.reduceBNe, Bool.true_beq, Bool.false_beq, Bool.true_bne, Bool.false_bne, Bool.not_true, Bool.not_false, hf1, Exb, Exk]
  refine loopO (noG_ok _) (pl := Tryd.pl47) Tryd.mix (X := Nat × Value × Hp)
    (fun s => ([(3, .slice (some ⟨bx, 0, none⟩) 32 cx), (4, s.2.1), (5, .int .i64 ((s.1 : Int) - 1))], s.2.2 ++ [Ex]))
    (fun s => s.1 ≤ 32 ∧ OutC 5 1 (byteV ((wbytes w).take (32 - s.1))) (32 - s.1) s.2.1 s.2.2 ∧ freshN s.2.2 [Ex]) (fun s => s.1) (32, .slice none 0 0, []) ?_ ?_ (by kernel_rfl) ?_
  · exact ⟨Nat.le_refl _, .nil _ _, trivial⟩
  · simp only [push_cast, Nat.reduceAdd, Nat.reduceSub, Nat.reduceMul, Nat.reduceLT, Nat.reduceLeDiff, Nat.reduceEqDiff, Nat.reduceMod, Nat.reduceDiv, Int.reduceAdd, Int.reduceSub, Int.reduceMul, Int.reduceLT, Int.reduceLE, Int.reduceEq, Int.reduceNeg, Int.reduceToNat, reduceIte, reduceCtorEq, Int.reduceBEq, Int.reduceBNe, Bool.true_beq, Bool.false_beq, Bool.true_bne, Bool.false_bne, Bool.not_true, Bool.not_false, hf1, Exb, Exk]
    done
  · rintro ⟨s, vo, No⟩ ⟨hi, ho, hf⟩
    dsimp only at hi ho hf ⊢
    have f0 : findE [Ex] bx = some Ex := by simp [findE, Exb]
    have fb : findE (No ++ [Ex]) bx = some Ex := by rw [findE_freshN hf f0]; exact f0
    rcases Nat.eq_zero_or_pos s with rfl | h0
    · obtain ⟨bz, cz, rfl, hcz, hzl, rfl⟩ := ho.pos (by decide)
      have hw := wbytes_len w
      have hbo := bytesOf_byteV (wbytes w)
      have e32 : List.take (32 - 0) (wbytes w) = wbytes w := List.take_of_length_le (by rw [hw]; exact Nat.le_refl _)
      have htk : List.take 32 (byteV (wbytes w)) = byteV (wbytes w) := List.take_of_length_le (by rw [byteV_len, hw]; exact Nat.le_refl _)
      have hbl : (byteV (wbytes w)).length = 32 := by rw [byteV_len, hw]
      rw [e32]
      simp only [push_cast, Nat.reduceAdd, Nat.reduceSub, Nat.reduceMul, Nat.reduceLT, Nat.reduceLeDiff, Nat.reduceEqDiff, Nat.reduceMod, Nat.reduceDiv, Int.reduceAdd, Int.reduceSub, Int.reduceMul, Int.reduceLT, Int.reduceLE, Int.reduceEq, Int.reduceNeg, Int.reduceToNat, reduceIte, reduceCtorEq, Int.reduceBEq, Int.reduceBNe, Bool.true_beq, Bool.false_beq, Bool.true_bne, Bool.false_bne, Bool.not_true, Bool.not_false, strOfV, htk, hbl, hbo]
      done
    · obtain ⟨i, rfl⟩ : ∃ i, s = i + 1 := ⟨s - 1, by omega⟩
      have ej : ((i + 1 : Nat) : Int) - 1 = (i : Int) := by omega
      have i0 : (0 : Int) ≤ (i : Int) := by omega
      have i1 : (i : Int) < 32 := by omega
      have i2 : i + 1 ≤ 32 := by omega
      rw [ej]
      have hdl := digN_lt w.num i
      have hat : List.take 1 (List.drop i Ex.cells) = [.int .i64 ((digN w.num i : Nat) : Int)] := by
        rw [hEx]
        show List.take 1 (List.drop i (zs (digs w.num 32))) = _
        have hl : i < (digs w.num 32).length := by rw [digs_len]; omega
        unfold zs
        rw [← List.map_drop, ← List.map_take, List.drop_eq_getElem_cons hl, List.take_succ_cons, List.take_zero, List.map_cons, List.map_nil]
        simp [digs]
      have hk1 : 31 - i < (wbytes w).length := by rw [wbytes_len]; omega
      have hby := byteV_take (wbytes w) hk1
      have hge : (wbytes w)[31 - i] = UInt8.ofNat (digN w.num i) := by
        have := wbytes_at w (j := 31 - i) (by omega)
        rw [List.getElem?_eq_getElem hk1, show 31 - (31 - i) = i by omega] at this
        exact Option.some.inj this
      rw [hge, ofNat_dig, show 31 - i + 1 = 32 - i by omega, show 31 - i = 32 - (i + 1) by omega] at hby
      simp only [push_cast, Nat.reduceAdd, Nat.reduceSub, Nat.reduceMul, Nat.reduceLT, Nat.reduceLeDiff, Nat.reduceEqDiff, Nat.reduceMod, Nat.reduceDiv, Int.reduceAdd, Int.reduceSub, Int.reduceMul, Int.reduceLT, Int.reduceLE, Int.reduceEq, Int.reduceNeg, Int.reduceToNat, reduceIte, reduceCtorEq, Int.reduceBEq, Int.reduceBNe, Bool.true_beq, Bool.false_beq, Bool.true_bne, Bool.false_bne, Bool.not_true, Bool.not_false, fb, i0, i1, i2, hat, Exk, Exo, Exl, wrap_u8' (n := ((digN w.num i : Nat) : Int)) (by omega)]
      intro b10 hb10
      refine append_out1 (e := 5) (sz := 1) (by_ := 1) (n := 32 - (i + 1)) (m := 1) (ys := [.int .u8 ((digN w.num i : Nat) : Int)]) ho hb10 (by simp only [push_cast, Nat.reduceAdd, Nat.reduceSub, Nat.reduceMul, Nat.reduceLT, Nat.reduceLeDiff, Nat.reduceEqDiff, Nat.reduceMod, Nat.reduceDiv, Int.reduceAdd, Int.reduceSub, Int.reduceMul, Int.reduceLT, Int.reduceLE, Int.reduceEq, Int.reduceNeg, Int.reduceToNat, reduceIte, reduceCtorEq, Int.reduceBEq, Int.reduceBNe, Bool.true_beq, Bool.false_beq, Bool.true_bne, Bool.false_bne, Bool.not_true, Bool.not_false]) (by simp only [push_cast, Nat.reduceAdd, Nat.reduceSub, Nat.reduceMul, Nat.reduceLT, Nat.reduceLeDiff, Nat.reduceEqDiff, Nat.reduceMod, Nat.reduceDiv, Int.reduceAdd, Int.reduceSub, Int.reduceMul, Int.reduceLT, Int.reduceLE, Int.reduceEq, Int.reduceNeg, Int.reduceToNat, reduceIte, reduceCtorEq, Int.reduceBEq, Int.reduceBNe, Bool.true_beq, Bool.false_beq, Bool.true_bne, Bool.false_bne, Bool.not_true, Bool.not_false]) rfl rfl (by unfold two47; omega) fun v' N' ho' hf' => ?_
      simp only [push_cast, Nat.reduceAdd, Nat.reduceSub, Nat.reduceMul, Nat.reduceLT, Nat.reduceLeDiff, Nat.reduceEqDiff, Nat.reduceMod, Nat.reduceDiv, Int.reduceAdd, Int.reduceSub, Int.reduceMul, Int.reduceLT, Int.reduceLE, Int.reduceEq, Int.reduceNeg, Int.reduceToNat, reduceIte, reduceCtorEq, Int.reduceBEq, Int.reduceBNe, Bool.true_beq, Bool.false_beq, Bool.true_bne, Bool.false_bne, Bool.not_true, Bool.not_false, wrap_i64' (show -9223372036854775808 ≤ (i : Int) - 1 ∧ (i : Int) - 1 ≤ 9223372036854775807 by omega)]
      refine ⟨(i, v', N'), ⟨by dsimp only; omega, ?_, freshN_cons hf'⟩, by dsimp only; omega, ⟨rfl, rfl⟩, subH_pre (subH_cons (fresh_app hb10)) _, ?_⟩
      · dsimp only
        rw [hby, show 32 - i = 32 - (i + 1) + 1 by omega]
        exact ho'
      · simp only [marks_append, marksOf, ho.wr.2, ho'.wr.2]
end Go.Proofs.YtfioapldbajpmaaDoor
