/- Sn: the document's memory: Piece. -/
import Derived.Test.YtcglhlmajgpglaaSm
set_option linter.unusedSimpArgs false
set_option linter.unusedVariables false
namespace Go.Ev
theorem catB_emp (x : List UInt8) (h : x.length ≤ 9223372036854775807) : catB (bs x) ByteArray.empty = some (.string (bs x)) := by
  have e : ByteArray.empty = bs [] := rfl
  rw [e]
  unfold catB
  rw [bs_size, bs_size, bs_append, List.append_nil, if_neg]
  show ¬ ((x.length + 0 : Nat) : Int) > (9223372036854775807 : Int)
  omega
end Go.Ev
namespace Go.Proofs.Ytcglhlmajgpglaa
open Go Go.Ev Go.Proofs
set_option maxRecDepth 100000
set_option maxHeartbeats 4000000
theorem rpiece_ok (b : ByteArray) (w : W) (n : Int) : CallsV Try.prog 29 [.string b, w.v, .int .i64 n] [] (Ret0 (.tuple #[.string (pieceP b w n).1, .int .i64 (pieceP b w n).2])) := by
  obtain ⟨l, rfl⟩ := bs_of b
  refine callsO gM3_ok Try.mix (fun i => if i = 1 then [(0, 9)] else Try.pl29 i) Try.func29 rfl Try.ntmps29 Try.results29 rfl (by first | rfl | assumption) (Nat.le_of_ble_eq_true rfl) (by kernel_rfl) ?_
  simp only [push_cast, Nat.reduceAdd, Nat.reduceSub, Nat.reduceMul, Nat.reduceLT, Nat.reduceLeDiff, Nat.reduceEqDiff, Nat.reduceMod, Nat.reduceDiv, Int.reduceAdd, Int.reduceSub, Int.reduceMul, Int.reduceLT, Int.reduceLE, Int.reduceEq, Int.reduceNeg, Int.reduceToNat, reduceIte, reduceCtorEq]
  intro b4
  refine regO gM3_ok ?_
  by_cases h : 0 ≤ n ∧ n ≤ 1048576
  · have hw : withI n 0 1048576 = n := by rw [withI_eq]; repeat' split <;> omega
    have e : pieceP (bs l) w n = (bs ((fromL l w).take n.toNat ++ zeros (n.toNat - ((fromL l w).take n.toNat).length)), 0) := by unfold pieceP; rw [if_pos hw, bs_data]
    have hn := h
    have h1 : ¬ n < 0 := by omega
    have h2 : ¬ 1048576 < n := by omega
    have h5 : fromL l w = if (intW w).2 = true ∧ (intW w).1 < (l.length : Int) then l.drop (intW w).1.toNat else [] := rfl
    have hi0 : 0 ≤ (intW w).1 := by rw [intW_eq]; split <;> simp
    obtain ⟨f, hfe⟩ : ∃ f, f = (intW w).1 := ⟨_, rfl⟩
    obtain ⟨g, hg⟩ : ∃ g, g = (intW w).2 := ⟨_, rfl⟩
    rw [← hfe] at hi0 h5
    rw [← hg] at h5
    obtain ⟨t, ht⟩ : ∃ t, t = fromL l w := ⟨_, rfl⟩
    rw [← ht] at h5 e
    cases g
    · have t0 : t = [] := by rw [h5, if_neg (by simp)]
      rw [t0] at e
      obtain ⟨z, hz⟩ : ∃ z : Nat, z = n.toNat := ⟨_, rfl⟩
      have ez : n - 0 = (z : Int) := by omega
      have ez' : n = (z : Int) := by omega
      have e' : pieceP (bs l) w n = (bs (zeros z), 0) := by rw [e, hz]; simp
      have z0 : ¬ (z : Int) < 0 := by omega
      by_cases z2 : z = 0
      · have zz : zeros z = [] := by rw [z2]; rfl
        rw [zz] at e'
        have ez2 : n - 0 = 0 := by omega
        simp only [push_cast, Nat.reduceAdd, Nat.reduceSub, Nat.reduceMul, Nat.reduceLT, Nat.reduceLeDiff, Nat.reduceEqDiff, Nat.reduceMod, Nat.reduceDiv, Int.reduceAdd, Int.reduceSub, Int.reduceMul, Int.reduceLT, Int.reduceLE, Int.reduceEq, Int.reduceNeg, Int.reduceToNat, reduceIte, reduceCtorEq, h1, h2, ← hg, ← hfe, ez2, wrap_i64' (show -9223372036854775808 ≤ (0 : Int) ∧ (0 : Int) ≤ 9223372036854775807 by omega), e', bs_nil, catB_emp [] (by decide), List.length_nil, implies_true]
      · have tz : List.take z (byteV (zeros z)) = byteV (zeros z) := List.take_of_length_le (by rw [byteV_len, zeros_len]; exact Nat.le_refl _)
        have hbo := bytesOf_byteV (zeros z)
        have m1 : ¬ (z : Int) > IntKind.i64.max := by show ¬ _ > (9223372036854775807 : Int); omega
        simp only [push_cast, Nat.reduceAdd, Nat.reduceSub, Nat.reduceMul, Nat.reduceLT, Nat.reduceLeDiff, Nat.reduceEqDiff, Nat.reduceMod, Nat.reduceDiv, Int.reduceAdd, Int.reduceSub, Int.reduceMul, Int.reduceLT, Int.reduceLE, Int.reduceEq, Int.reduceNeg, Int.reduceToNat, reduceIte, reduceCtorEq, h1, h2, ← hg, ← hfe, ez, wrap_i64' (show -9223372036854775808 ≤ (z : Int) ∧ (z : Int) ≤ 9223372036854775807 by omega), z0, z2, e', repV_zeros, byteV_len, zeros_len, tz, hbo, bs_mk, bs_nil, catB, m1, List.length_nil]
        unfold two47; omega
    · by_cases hf : (l.length : Int) < f
      · have t0 : t = [] := by rw [h5, if_neg (by omega)]
        rw [t0] at e
        obtain ⟨z, hz⟩ : ∃ z : Nat, z = n.toNat := ⟨_, rfl⟩
        have ez : n - 0 = (z : Int) := by omega
        have ez' : n = (z : Int) := by omega
        have e' : pieceP (bs l) w n = (bs (zeros z), 0) := by rw [e, hz]; simp
        have z0 : ¬ (z : Int) < 0 := by omega
        by_cases z2 : z = 0
        · have zz : zeros z = [] := by rw [z2]; rfl
          rw [zz] at e'
          have ez2 : n - 0 = 0 := by omega
          simp only [push_cast, Nat.reduceAdd, Nat.reduceSub, Nat.reduceMul, Nat.reduceLT, Nat.reduceLeDiff, Nat.reduceEqDiff, Nat.reduceMod, Nat.reduceDiv, Int.reduceAdd, Int.reduceSub, Int.reduceMul, Int.reduceLT, Int.reduceLE, Int.reduceEq, Int.reduceNeg, Int.reduceToNat, reduceIte, reduceCtorEq, h1, h2, ← hg, ← hfe, hf, ez2, wrap_i64' (show -9223372036854775808 ≤ (0 : Int) ∧ (0 : Int) ≤ 9223372036854775807 by omega), e', bs_nil, catB_emp [] (by decide), List.length_nil, implies_true]
        · have tz : List.take z (byteV (zeros z)) = byteV (zeros z) := List.take_of_length_le (by rw [byteV_len, zeros_len]; exact Nat.le_refl _)
          have hbo := bytesOf_byteV (zeros z)
          have m1 : ¬ (z : Int) > IntKind.i64.max := by show ¬ _ > (9223372036854775807 : Int); omega
          simp only [push_cast, Nat.reduceAdd, Nat.reduceSub, Nat.reduceMul, Nat.reduceLT, Nat.reduceLeDiff, Nat.reduceEqDiff, Nat.reduceMod, Nat.reduceDiv, Int.reduceAdd, Int.reduceSub, Int.reduceMul, Int.reduceLT, Int.reduceLE, Int.reduceEq, Int.reduceNeg, Int.reduceToNat, reduceIte, reduceCtorEq, h1, h2, ← hg, ← hfe, hf, ez, wrap_i64' (show -9223372036854775808 ≤ (z : Int) ∧ (z : Int) ≤ 9223372036854775807 by omega), z0, z2, e', repV_zeros, byteV_len, zeros_len, tz, hbo, bs_mk, bs_nil, catB, m1, List.length_nil]
          unfold two47; omega
      · have hf2 : f ≤ (l.length : Int) := by omega
        have t0 : List.take (l.length - f.toNat) (List.drop f.toNat l) = t := by
          rw [List.take_of_length_le (by rw [List.length_drop]; exact Nat.le_refl _), h5]
          by_cases hc : f < (l.length : Int)
          · rw [if_pos ⟨rfl, hc⟩]
          · rw [if_neg (fun hh => hc hh.2), List.drop_eq_nil_of_le (by omega)]
        by_cases tn : n < (t.length : Int)
        · have ek : (n.toNat : Int) = n := by omega
          have lt : (List.take n.toNat t).length = n.toNat := by rw [List.length_take]; omega
          have z1 : n.toNat - (List.take n.toNat t).length = 0 := by rw [lt]; omega
          rw [z1, show zeros 0 = [] from rfl, List.append_nil] at e
          have n1 : n ≤ (t.length : Int) := by omega
          have z2 : n - n = 0 := by omega
          have m1 : ¬ n > IntKind.i64.max := by show ¬ _ > (9223372036854775807 : Int); omega
          simp only [push_cast, Nat.reduceAdd, Nat.reduceSub, Nat.reduceMul, Nat.reduceLT, Nat.reduceLeDiff, Nat.reduceEqDiff, Nat.reduceMod, Nat.reduceDiv, Int.reduceAdd, Int.reduceSub, Int.reduceMul, Int.reduceLT, Int.reduceLE, Int.reduceEq, Int.reduceNeg, Int.reduceToNat, reduceIte, reduceCtorEq, h1, h2, ← hg, ← hfe, hf, hf2, hi0, t0, tn, n1, ek, lt, z2, hn.1, e, wrap_i64' (show -9223372036854775808 ≤ (0 : Int) ∧ (0 : Int) ≤ 9223372036854775807 by omega), catB_emp (List.take n.toNat t) (by omega), implies_true]
        · obtain ⟨z, hz⟩ : ∃ z : Nat, z = (n - (t.length : Int)).toNat := ⟨_, rfl⟩
          have ez : n - (t.length : Int) = (z : Int) := by omega
          have tk : List.take n.toNat t = t := List.take_of_length_le (by omega)
          have z1 : n.toNat - t.length = z := by omega
          rw [tk, z1] at e
          have z0 : ¬ (z : Int) < 0 := by omega
          by_cases z2 : z = 0
          · have zz : zeros z = [] := by rw [z2]; rfl
            rw [zz, List.append_nil] at e
            have ez2 : n - (t.length : Int) = 0 := by omega
            have m1 : ¬ (t.length : Int) > IntKind.i64.max := by show ¬ _ > (9223372036854775807 : Int); omega
            simp only [push_cast, Nat.reduceAdd, Nat.reduceSub, Nat.reduceMul, Nat.reduceLT, Nat.reduceLeDiff, Nat.reduceEqDiff, Nat.reduceMod, Nat.reduceDiv, Int.reduceAdd, Int.reduceSub, Int.reduceMul, Int.reduceLT, Int.reduceLE, Int.reduceEq, Int.reduceNeg, Int.reduceToNat, reduceIte, reduceCtorEq, h1, h2, ← hg, ← hfe, hf, hf2, hi0, t0, tn, ez2, wrap_i64' (show -9223372036854775808 ≤ (0 : Int) ∧ (0 : Int) ≤ 9223372036854775807 by omega), e, catB_emp t (by omega), implies_true]
          · have tz : List.take z (byteV (zeros z)) = byteV (zeros z) := List.take_of_length_le (by rw [byteV_len, zeros_len]; exact Nat.le_refl _)
            have hbo := bytesOf_byteV (zeros z)
            have m1 : ¬ ((t.length : Int) + (z : Int)) > IntKind.i64.max := by show ¬ _ > (9223372036854775807 : Int); omega
            simp only [push_cast, Nat.reduceAdd, Nat.reduceSub, Nat.reduceMul, Nat.reduceLT, Nat.reduceLeDiff, Nat.reduceEqDiff, Nat.reduceMod, Nat.reduceDiv, Int.reduceAdd, Int.reduceSub, Int.reduceMul, Int.reduceLT, Int.reduceLE, Int.reduceEq, Int.reduceNeg, Int.reduceToNat, reduceIte, reduceCtorEq, h1, h2, ← hg, ← hfe, hf, hf2, hi0, t0, tn, ez, wrap_i64' (show -9223372036854775808 ≤ (z : Int) ∧ (z : Int) ≤ 9223372036854775807 by omega), z0, z2, e, repV_zeros, byteV_len, zeros_len, tz, hbo, bs_mk, catB, m1]
            unfold two47; omega
  · have e : pieceP (bs l) w n = (bs [], 1) := by
      unfold pieceP
      rw [if_neg (fun hh => by rw [withI_eq] at hh; revert hh; repeat' split <;> omega)]
    by_cases h1 : n < 0
    · simp only [push_cast, Nat.reduceAdd, Nat.reduceSub, Nat.reduceMul, Nat.reduceLT, Nat.reduceLeDiff, Nat.reduceEqDiff, Nat.reduceMod, Nat.reduceDiv, Int.reduceAdd, Int.reduceSub, Int.reduceMul, Int.reduceLT, Int.reduceLE, Int.reduceEq, Int.reduceNeg, Int.reduceToNat, reduceIte, reduceCtorEq, h1, e]
      rfl
    · have h2 : 1048576 < n := by omega
      simp only [push_cast, Nat.reduceAdd, Nat.reduceSub, Nat.reduceMul, Nat.reduceLT, Nat.reduceLeDiff, Nat.reduceEqDiff, Nat.reduceMod, Nat.reduceDiv, Int.reduceAdd, Int.reduceSub, Int.reduceMul, Int.reduceLT, Int.reduceLE, Int.reduceEq, Int.reduceNeg, Int.reduceToNat, reduceIte, reduceCtorEq, h1, h2, e]
      rfl
end Go.Proofs.Ytcglhlmajgpglaa
