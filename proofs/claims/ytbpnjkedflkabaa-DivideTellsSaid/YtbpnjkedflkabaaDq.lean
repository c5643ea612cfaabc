/- Dq: the document's words, layer 2: FromBits. -/
import Derived.Test.YtbpnjkedflkabaaDp
set_option linter.unusedSimpArgs false
set_option linter.unusedVariables false
namespace Go.Proofs.Ytbpnjkedflkabaa
open Go Go.Ev Go.Proofs
set_option maxRecDepth 100000
set_option maxHeartbeats 4000000
theorem fromBits_ok (m b c : Nat) : CallsV Try.prog 52 [.slice (some ⟨b, 0, none⟩) 256 c] [⟨b, 0, .ro, zs (mapN 256 (bitsF m))⟩] (Ret0 (W.of m).v) := by
  obtain ⟨R, hR⟩ : ∃ R, R = W.of m := ⟨_, rfl⟩
  rw [← hR]
  obtain ⟨Eb, hEb⟩ : ∃ e : Ent, e = ⟨b, 0, .ro, zs (mapN 256 (bitsF m))⟩ := ⟨_, rfl⟩
  rw [← hEb]
  have Ek : Eb.kind = .ro := by rw [hEb]
  have Ebk : Eb.blk = b := by rw [hEb]
  have Eo : Eb.off = 0 := by rw [hEb]
  have El : Eb.cells.length = 256 := by rw [hEb]; exact mapN_zlen _ _
  have Em : marksOf [Eb] = [] := by rw [hEb]; rfl
  refine callsO (noG_ok _) Try.mix Try.pl52 Try.func52 rfl Try.ntmps52 Try.results52 rfl (by first | rfl | assumption) (Nat.le_of_ble_eq_true rfl) (by kernel_rfl) ?_
  simp only [push_cast, Nat.reduceAdd, Nat.reduceSub, Nat.reduceMul, Nat.reduceLT, Nat.reduceLeDiff, Nat.reduceEqDiff, Nat.reduceMod, Nat.reduceDiv, Int.reduceAdd, Int.reduceSub, Int.reduceMul, Int.reduceLT, Int.reduceLE, Int.reduceEq, Int.reduceNeg, Int.reduceToNat, reduceIte, reduceCtorEq, Ebk]
  intro b2 hb2
  refine loopO (noG_ok _) (pl := Try.pl52) Try.mix (X := Nat × Value × Hp)
    (fun s => ([(0, .slice (some ⟨b, 0, none⟩) 256 c), (2, .pointer (some ⟨b2, 0, none⟩)), (3, s.2.1), (4, .int .i64 s.1)], s.2.2 ++ [⟨b2, 0, .cel 24, [.int .u64 0, .int .u64 0, .int .u64 0, .int .u64 0]⟩, Eb]))
    (fun s => s.1 ≤ 32 ∧ OutC 3 1 (zs (digs m s.1)) s.1 s.2.1 s.2.2 ∧ freshN s.2.2 [⟨b2, 0, .cel 24, [.int .u64 0, .int .u64 0, .int .u64 0, .int .u64 0]⟩, Eb]) (fun s => 32 - s.1) (0, .slice none 0 0, []) ?_ ?_ (by kernel_rfl) ?_
  · exact ⟨by decide, .nil _ _, trivial⟩
  · simp only [push_cast, Nat.reduceAdd, Nat.reduceSub, Nat.reduceMul, Nat.reduceLT, Nat.reduceLeDiff, Nat.reduceEqDiff, Nat.reduceMod, Nat.reduceDiv, Int.reduceAdd, Int.reduceSub, Int.reduceMul, Int.reduceLT, Int.reduceLE, Int.reduceEq, Int.reduceNeg, Int.reduceToNat, reduceIte, reduceCtorEq]
    done
  · rintro ⟨i, vo, No⟩ ⟨hi, ho, hf⟩
    dsimp only at hi ho hf ⊢
    have f0 : findE [⟨b2, 0, .cel 24, [.int .u64 0, .int .u64 0, .int .u64 0, .int .u64 0]⟩, Eb] b = some Eb := by simp only [push_cast, Nat.reduceAdd, Nat.reduceSub, Nat.reduceMul, Nat.reduceLT, Nat.reduceLeDiff, Nat.reduceEqDiff, Nat.reduceMod, Nat.reduceDiv, Int.reduceAdd, Int.reduceSub, Int.reduceMul, Int.reduceLT, Int.reduceLE, Int.reduceEq, Int.reduceNeg, Int.reduceToNat, reduceIte, reduceCtorEq, Ebk, hb2]
    have fb : findE (No ++ [⟨b2, 0, .cel 24, [.int .u64 0, .int .u64 0, .int .u64 0, .int .u64 0]⟩, Eb]) b = some Eb := by rw [findE_freshN hf f0]; exact f0
    rcases Nat.lt_or_ge i 32 with hlt | hge
    · have i32 : (i : Int) < 32 := by omega
      simp only [push_cast, Nat.reduceAdd, Nat.reduceSub, Nat.reduceMul, Nat.reduceLT, Nat.reduceLeDiff, Nat.reduceEqDiff, Nat.reduceMod, Nat.reduceDiv, Int.reduceAdd, Int.reduceSub, Int.reduceMul, Int.reduceLT, Int.reduceLE, Int.reduceEq, Int.reduceNeg, Int.reduceToNat, reduceIte, reduceCtorEq, i32]
      obtain ⟨d, hd⟩ : ∃ d, d = digN m i := ⟨_, rfl⟩
      have dl := digN_lt m i
      rw [← hd] at dl
      refine loopO (noG_ok _) (pl := Try.pl52) Try.mix (X := Nat)
        (fun s => ([(0, .slice (some ⟨b, 0, none⟩) 256 c), (2, .pointer (some ⟨b2, 0, none⟩)), (3, vo), (4, .int .i64 i), (5, .int .i64 ((half2 d s : Nat) : Int)), (6, .int .i64 ((s : Int) - 1))], No ++ [⟨b2, 0, .cel 24, [.int .u64 0, .int .u64 0, .int .u64 0, .int .u64 0]⟩, Eb]))
        (fun s => s ≤ 8) (fun s => s) 8 ?_ ?_ (by kernel_rfl) ?_
      · exact Nat.le_refl _
      · have h8 : half2 d 8 = 0 := by rw [half2_eq]; exact Nat.div_eq_of_lt dl
        rw [h8]
        simp only [push_cast, Nat.reduceAdd, Nat.reduceSub, Nat.reduceMul, Nat.reduceLT, Nat.reduceLeDiff, Nat.reduceEqDiff, Nat.reduceMod, Nat.reduceDiv, Int.reduceAdd, Int.reduceSub, Int.reduceMul, Int.reduceLT, Int.reduceLE, Int.reduceEq, Int.reduceNeg, Int.reduceToNat, reduceIte, reduceCtorEq]
        exact subH_self _
      · intro s hs
        dsimp only at hs ⊢
        have hle := half2_le d s
        rcases Nat.eq_zero_or_pos s with rfl | h0
        · rw [half2_zero]
          simp only [push_cast, Nat.reduceAdd, Nat.reduceSub, Nat.reduceMul, Nat.reduceLT, Nat.reduceLeDiff, Nat.reduceEqDiff, Nat.reduceMod, Nat.reduceDiv, Int.reduceAdd, Int.reduceSub, Int.reduceMul, Int.reduceLT, Int.reduceLE, Int.reduceEq, Int.reduceNeg, Int.reduceToNat, reduceIte, reduceCtorEq]
          intro b10 hb10
          refine append_out1 (e := 3) (sz := 1) (by_ := 8) (n := i) (m := 1) (ys := [.int .i64 (d : Int)]) ho hb10 (by simp only [push_cast, Nat.reduceAdd, Nat.reduceSub, Nat.reduceMul, Nat.reduceLT, Nat.reduceLeDiff, Nat.reduceEqDiff, Nat.reduceMod, Nat.reduceDiv, Int.reduceAdd, Int.reduceSub, Int.reduceMul, Int.reduceLT, Int.reduceLE, Int.reduceEq, Int.reduceNeg, Int.reduceToNat, reduceIte, reduceCtorEq]) (by simp only [push_cast, Nat.reduceAdd, Nat.reduceSub, Nat.reduceMul, Nat.reduceLT, Nat.reduceLeDiff, Nat.reduceEqDiff, Nat.reduceMod, Nat.reduceDiv, Int.reduceAdd, Int.reduceSub, Int.reduceMul, Int.reduceLT, Int.reduceLE, Int.reduceEq, Int.reduceNeg, Int.reduceToNat, reduceIte, reduceCtorEq]) rfl rfl (by unfold two47; omega) fun v' N' ho' hf' => ?_
          simp only [push_cast, Nat.reduceAdd, Nat.reduceSub, Nat.reduceMul, Nat.reduceLT, Nat.reduceLeDiff, Nat.reduceEqDiff, Nat.reduceMod, Nat.reduceDiv, Int.reduceAdd, Int.reduceSub, Int.reduceMul, Int.reduceLT, Int.reduceLE, Int.reduceEq, Int.reduceNeg, Int.reduceToNat, reduceIte, reduceCtorEq, wrap_i64' (show -9223372036854775808 ≤ (i : Int) + 1 ∧ (i : Int) + 1 ≤ 9223372036854775807 by omega)]
          refine ⟨(i + 1, v', N'), ⟨hlt, ?_, freshN_cons hf'⟩, by dsimp only; omega, ⟨rfl, rfl⟩, subH_pre (subH_cons (fresh_app hb10)) _, ?_⟩
          · dsimp only
            rw [digs_succ, zs_app, ← hd]
            exact ho'
          · simp only [marks_append, marksOf, ho.wr.2, ho'.wr.2]
        · obtain ⟨j, rfl⟩ : ∃ j, s = j + 1 := ⟨s - 1, by omega⟩
          have hj : ((j + 1 : Nat) : Int) - 1 = (j : Int) := by omega
          have j0 : (0 : Int) ≤ (j : Int) := by omega
          rw [hj]
          obtain ⟨p, hp⟩ : ∃ p, p = 8 * i + j := ⟨_, rfl⟩
          have e8 : (8 : Int) * (i : Int) + (j : Int) = (p : Int) := by omega
          have p1 : (p : Int) < 256 := by omega
          have p2 : p + 1 ≤ 256 := by omega
          have a1 := mapN_at 256 (bitsF m) (i := p) (by omega)
          have hb := bit_digit m (q := i) (r := j) (by omega)
          rw [← hd, ← hp] at hb
          have a1' : List.take 1 (List.drop p Eb.cells) = [.int .i64 ((bitN m p : Nat) : Int)] := by rw [hEb]; exact a1
          have hs2 := half2_succ d j
          have hle2 := half2_le d j
          have e2 : (2 : Int) * ((half2 d (j + 1) : Nat) : Int) + ((bitN m p : Nat) : Int) = ((half2 d j : Nat) : Int) := by omega
          have e3 := wrap_i64' (show -9223372036854775808 ≤ (2 : Int) * ((half2 d (j + 1) : Nat) : Int) ∧ (2 : Int) * ((half2 d (j + 1) : Nat) : Int) ≤ 9223372036854775807 by omega)
          simp only [push_cast, Nat.reduceAdd, Nat.reduceSub, Nat.reduceMul, Nat.reduceLT, Nat.reduceLeDiff, Nat.reduceEqDiff, Nat.reduceMod, Nat.reduceDiv, Int.reduceAdd, Int.reduceSub, Int.reduceMul, Int.reduceLT, Int.reduceLE, Int.reduceEq, Int.reduceNeg, Int.reduceToNat, reduceIte, reduceCtorEq, fb, j0, e8, p1, p2, a1', Ek, Eo, El, e3, e2, wrap_i64' (show -9223372036854775808 ≤ (8 : Int) * (i : Int) ∧ (8 : Int) * (i : Int) ≤ 9223372036854775807 by omega), wrap_i64' (show -9223372036854775808 ≤ (p : Int) ∧ (p : Int) ≤ 9223372036854775807 by omega), wrap_i64' (show -9223372036854775808 ≤ ((half2 d j : Nat) : Int) ∧ ((half2 d j : Nat) : Int) ≤ 9223372036854775807 by omega), wrap_i64' (show -9223372036854775808 ≤ (j : Int) - 1 ∧ (j : Int) - 1 ≤ 9223372036854775807 by omega)]
          exact ⟨j, by omega, by omega, ⟨rfl, rfl⟩, subH_self _⟩
    · obtain rfl : i = 32 := by omega
      obtain ⟨bz, cz, rfl, hcz, -, rfl⟩ := ho.pos (by decide)
      simp only [push_cast, Nat.reduceAdd, Nat.reduceSub, Nat.reduceMul, Nat.reduceLT, Nat.reduceLeDiff, Nat.reduceEqDiff, Nat.reduceMod, Nat.reduceDiv, Int.reduceAdd, Int.reduceSub, Int.reduceMul, Int.reduceLT, Int.reduceLE, Int.reduceEq, Int.reduceNeg, Int.reduceToNat, reduceIte, reduceCtorEq, Ebk] at hf
      simp only [push_cast, Nat.reduceAdd, Nat.reduceSub, Nat.reduceMul, Nat.reduceLT, Nat.reduceLeDiff, Nat.reduceEqDiff, Nat.reduceMod, Nat.reduceDiv, Int.reduceAdd, Int.reduceSub, Int.reduceMul, Int.reduceLT, Int.reduceLE, Int.reduceEq, Int.reduceNeg, Int.reduceToNat, reduceIte, reduceCtorEq, hf, hb2]
      refine (fromCarried m bz cz).pure ?_ ?_
      · simp only [push_cast, Nat.reduceAdd, Nat.reduceSub, Nat.reduceMul, Nat.reduceLT, Nat.reduceLeDiff, Nat.reduceEqDiff, Nat.reduceMod, Nat.reduceDiv, Int.reduceAdd, Int.reduceSub, Int.reduceMul, Int.reduceLT, Int.reduceLE, Int.reduceEq, Int.reduceNeg, Int.reduceToNat, reduceIte, reduceCtorEq, zdigs_len, zdigs_take]
      · rw [← hR]
        simp only [push_cast, Nat.reduceAdd, Nat.reduceSub, Nat.reduceMul, Nat.reduceLT, Nat.reduceLeDiff, Nat.reduceEqDiff, Nat.reduceMod, Nat.reduceDiv, Int.reduceAdd, Int.reduceSub, Int.reduceMul, Int.reduceLT, Int.reduceLE, Int.reduceEq, Int.reduceNeg, Int.reduceToNat, reduceIte, reduceCtorEq, hf, hb2, Ebk]
        done
end Go.Proofs.Ytbpnjkedflkabaa
