/- Sp: Mem. -/
import Derived.Test.YtcglhlmajgpglaaSo
set_option linter.unusedSimpArgs false
set_option linter.unusedVariables false
namespace Go.Ev
noncomputable def it1 (l : List UInt8) (n : Nat) : Nat → List UInt8 → List UInt8
  | 0, x => x
  | f + 1, x => if x.length < n ∧ 0 < l.length then it1 l n f (x ++ l) else x
theorem it1_stop (l : List UInt8) (n : Nat) {x : List UInt8} (h : ¬ (x.length < n ∧ 0 < l.length)) : ∀ f, it1 l n f x = x
  | 0 => rfl
  | f + 1 => by unfold it1; rw [if_neg h]
theorem it1_go (l : List UInt8) (n : Nat) {x : List UInt8} (h : x.length < n ∧ 0 < l.length) (f : Nat) : it1 l n (f + 1) x = it1 l n f (x ++ l) := by
  show (if x.length < n ∧ 0 < l.length then it1 l n f (x ++ l) else x) = _
  rw [if_pos h]
noncomputable def memL : List UInt8 → Nat → List UInt8 := hid fun l n => ((it1 l n n l) ++ zeros (n - (it1 l n n l).length)).take n
theorem memL_eq (l : List UInt8) (n : Nat) : memL l n = ((it1 l n n l) ++ zeros (n - (it1 l n n l).length)).take n := by unfold memL; rw [hid_eq]
theorem memL_len (l : List UInt8) (n : Nat) : (memL l n).length = n := by
  rw [memL_eq, List.length_take, List.length_append, zeros_len]; omega
noncomputable def memG : List Value → Option Value
  | [.string b, .int .i64 c] => if i64B c then some (.string (bs (memL b.data.toList (32 * pickN c 17)))) else none
  | _ => none
def awakeG : List Value → Option Value
  | [] => some (.bool true)
  | _ => none
theorem CallsV.onto {P : Program} {g : FuncId} {args : List Value} {v : Value} {H : Hp} (hc : CallsV P g args [] (Ret0 v)) (hm : marksOf H = []) : CallsV P g args H (Ret0 v) := by
  refine ⟨hc.1, fun w0 mu w hs => ?_⟩
  rw [hm]
  exact hc.2 w0 mu w (hs.weak (List.nil_sublist H))
attribute [push_cast] memG awakeG
theorem catB_bs (x y : List UInt8) (h : x.length + y.length ≤ 9223372036854775807) : catB (bs x) (bs y) = some (.string (bs (x ++ y))) := by
  unfold catB
  rw [bs_size, bs_size, bs_append, if_neg]
  show ¬ ((x.length + y.length : Nat) : Int) > (9223372036854775807 : Int)
  omega
theorem zeros_succ (k : Nat) : zeros (k + 1) = zeros k ++ [0] := by unfold zeros; rw [List.replicate_succ']
end Go.Ev
namespace Go.Proofs.Ytcglhlmajgpglaa
open Go Go.Ev Go.Proofs
set_option maxRecDepth 100000
set_option maxHeartbeats 4000000
theorem mem_ok (b : ByteArray) (c : Int) (hc : i64In c) : CallsV Try.prog 9 [.string b, .int .i64 c] [] (Ret0 (.string (bs (memL b.data.toList (32 * pickN c 17))))) := by
  obtain ⟨l, rfl⟩ := bs_of b
  rw [bs_data]
  have j1 := i64B_in hc
  have j2 : i64B 17 = true := i64B_in (by decide)
  have q1 : posB 17 = true := posB_in (by decide)
  have hp := pickN_lt c (n := 17) (by decide)
  obtain ⟨p, hpp⟩ : ∃ p, p = pickN c 17 := ⟨_, rfl⟩
  rw [← hpp] at hp ⊢
  obtain ⟨n, hn⟩ : ∃ n, n = 32 * p := ⟨_, rfl⟩
  have en : (32 : Int) * (p : Int) = (n : Int) := by omega
  rw [← hn]
  obtain ⟨R, hR⟩ : ∃ R, R = memL l n := ⟨_, rfl⟩
  rw [← hR]
  obtain ⟨X, hX⟩ : ∃ X, X = it1 l n n l := ⟨_, rfl⟩
  refine callsO gO0_ok Try.mix Try.pl9 Try.func9 rfl Try.ntmps9 Try.results9 rfl (by first | rfl | assumption) (Nat.le_of_ble_eq_true rfl) (by kernel_rfl) ?_
  simp only [push_cast, Nat.reduceAdd, Nat.reduceSub, Nat.reduceMul, Nat.reduceLT, Nat.reduceLeDiff, Nat.reduceEqDiff, Nat.reduceMod, Nat.reduceDiv, Int.reduceAdd, Int.reduceSub, Int.reduceMul, Int.reduceLT, Int.reduceLE, Int.reduceEq, Int.reduceNeg, Int.reduceToNat, reduceIte, reduceCtorEq, j1, j2, q1, ← hpp, en, wrap_i64' (show -9223372036854775808 ≤ (n : Int) ∧ (n : Int) ≤ 9223372036854775807 by omega)]
  refine loopO gO0_ok (pl := Try.pl9) Try.mix (X := Nat × List UInt8)
    (fun s => ([(0, .string (bs l)), (5, .int .i64 n), (6, .string (bs s.2))], []))
    (fun s => s.1 ≤ n ∧ it1 l n (n - s.1) s.2 = X ∧ s.1 ≤ s.2.length ∧ l.length ≤ s.2.length) (fun s => n - s.1) (0, l) ?_ ?_ (by kernel_rfl) ?_
  · exact ⟨Nat.zero_le _, by dsimp only; rw [hX, Nat.sub_zero], Nat.zero_le _, Nat.le_refl _⟩
  · simp only [push_cast, Nat.reduceAdd, Nat.reduceSub, Nat.reduceMul, Nat.reduceLT, Nat.reduceLeDiff, Nat.reduceEqDiff, Nat.reduceMod, Nat.reduceDiv, Int.reduceAdd, Int.reduceSub, Int.reduceMul, Int.reduceLT, Int.reduceLE, Int.reduceEq, Int.reduceNeg, Int.reduceToNat, reduceIte, reduceCtorEq]
  · rintro ⟨j, x⟩ ⟨hj, hi, hl, hll⟩
    dsimp only at hj hi hl hll ⊢
    have stop : ¬ (x.length < n ∧ 0 < l.length) → x = X := fun h => by rw [it1_stop l n h] at hi; exact hi
    by_cases hA : x.length < n ∧ 0 < l.length
    · have c1 : (x.length : Int) < (n : Int) := by omega
      have c2 : (0 : Int) < (l.length : Int) := by omega
      have ct := catB_bs x l (by omega)
      rw [show n - j = (n - (j + 1)) + 1 by omega, it1_go l n hA] at hi
      simp only [push_cast, Nat.reduceAdd, Nat.reduceSub, Nat.reduceMul, Nat.reduceLT, Nat.reduceLeDiff, Nat.reduceEqDiff, Nat.reduceMod, Nat.reduceDiv, Int.reduceAdd, Int.reduceSub, Int.reduceMul, Int.reduceLT, Int.reduceLE, Int.reduceEq, Int.reduceNeg, Int.reduceToNat, reduceIte, reduceCtorEq, c1, c2, ct]
      exact ⟨(j + 1, x ++ l), ⟨by dsimp only; omega, hi, by dsimp only; rw [List.length_append]; omega, by dsimp only; rw [List.length_append]; omega⟩, by dsimp only; omega, rfl⟩
    · have hx := stop hA
      by_cases c1 : (x.length : Int) < (n : Int)
      · have c2 : ¬ (0 : Int) < (l.length : Int) := by omega
        simp only [push_cast, Nat.reduceAdd, Nat.reduceSub, Nat.reduceMul, Nat.reduceLT, Nat.reduceLeDiff, Nat.reduceEqDiff, Nat.reduceMod, Nat.reduceDiv, Int.reduceAdd, Int.reduceSub, Int.reduceMul, Int.reduceLT, Int.reduceLE, Int.reduceEq, Int.reduceNeg, Int.reduceToNat, reduceIte, reduceCtorEq, c1, c2]
        refine loopO gO0_ok (pl := Try.pl9) Try.mix (X := Nat)
          (fun k => ([(5, .int .i64 n), (6, .string (bs (X ++ zeros k)))], []))
          (fun k => k ≤ n - X.length) (fun k => n - k) 0 ?_ ?_ (by kernel_rfl) ?_
        · exact Nat.zero_le _
        · rw [show zeros 0 = [] from rfl, List.append_nil, ← hx]
          simp only [push_cast, Nat.reduceAdd, Nat.reduceSub, Nat.reduceMul, Nat.reduceLT, Nat.reduceLeDiff, Nat.reduceEqDiff, Nat.reduceMod, Nat.reduceDiv, Int.reduceAdd, Int.reduceSub, Int.reduceMul, Int.reduceLT, Int.reduceLE, Int.reduceEq, Int.reduceNeg, Int.reduceToNat, reduceIte, reduceCtorEq]
        · intro k hk
          dsimp only at hk ⊢
          have hlk : (X ++ zeros k).length = X.length + k := by rw [List.length_append, zeros_len]
          by_cases hc : X.length + k < n
          · have c5 : ((X.length + k : Nat) : Int) < (n : Int) := by omega
            have ct : catB (bs (X ++ zeros k)) { data := #[0] } = some (.string (bs (X ++ zeros (k + 1)))) := by
              have := catB_bs (X ++ zeros k) [0] (by rw [hlk]; show _ + 1 ≤ _; omega)
              rw [List.append_assoc, ← zeros_succ] at this
              exact this
            have hlz : ((X ++ zeros k).length : Int) < (n : Int) := by rw [hlk]; exact c5
            generalize X ++ zeros k = Z at *
            simp only [push_cast, Nat.reduceAdd, Nat.reduceSub, Nat.reduceMul, Nat.reduceLT, Nat.reduceLeDiff, Nat.reduceEqDiff, Nat.reduceMod, Nat.reduceDiv, Int.reduceAdd, Int.reduceSub, Int.reduceMul, Int.reduceLT, Int.reduceLE, Int.reduceEq, Int.reduceNeg, Int.reduceToNat, reduceIte, reduceCtorEq, hlz, ct]
            exact ⟨k + 1, by omega, by omega, rfl⟩
          · have hlz : ¬ ((X ++ zeros k).length : Int) < (n : Int) := by rw [hlk]; omega
            have hnz : (n : Int) ≤ ((X ++ zeros k).length : Int) := by omega
            have hnz' : n ≤ (X ++ zeros k).length := by omega
            have hRz : List.take n (X ++ zeros k) = R := by
              rw [hR, memL_eq, ← hX]
              congr 2
              congr 1
              omega
            generalize X ++ zeros k = Z at *
            simp only [push_cast, Nat.reduceAdd, Nat.reduceSub, Nat.reduceMul, Nat.reduceLT, Nat.reduceLeDiff, Nat.reduceEqDiff, Nat.reduceMod, Nat.reduceDiv, Int.reduceAdd, Int.reduceSub, Int.reduceMul, Int.reduceLT, Int.reduceLE, Int.reduceEq, Int.reduceNeg, Int.reduceToNat, reduceIte, reduceCtorEq, hlz, hnz, hnz', hRz]
            done
      · simp only [push_cast, Nat.reduceAdd, Nat.reduceSub, Nat.reduceMul, Nat.reduceLT, Nat.reduceLeDiff, Nat.reduceEqDiff, Nat.reduceMod, Nat.reduceDiv, Int.reduceAdd, Int.reduceSub, Int.reduceMul, Int.reduceLT, Int.reduceLE, Int.reduceEq, Int.reduceNeg, Int.reduceToNat, reduceIte, reduceCtorEq, c1]
        refine loopO gO0_ok (pl := Try.pl9) Try.mix (X := Nat)
          (fun k => ([(5, .int .i64 n), (6, .string (bs (X ++ zeros k)))], []))
          (fun k => k ≤ n - X.length) (fun k => n - k) 0 ?_ ?_ (by kernel_rfl) ?_
        · exact Nat.zero_le _
        · rw [show zeros 0 = [] from rfl, List.append_nil, ← hx]
          simp only [push_cast, Nat.reduceAdd, Nat.reduceSub, Nat.reduceMul, Nat.reduceLT, Nat.reduceLeDiff, Nat.reduceEqDiff, Nat.reduceMod, Nat.reduceDiv, Int.reduceAdd, Int.reduceSub, Int.reduceMul, Int.reduceLT, Int.reduceLE, Int.reduceEq, Int.reduceNeg, Int.reduceToNat, reduceIte, reduceCtorEq]
        · intro k hk
          dsimp only at hk ⊢
          have hlk : (X ++ zeros k).length = X.length + k := by rw [List.length_append, zeros_len]
          by_cases hc : X.length + k < n
          · have c5 : ((X.length + k : Nat) : Int) < (n : Int) := by omega
            have ct : catB (bs (X ++ zeros k)) { data := #[0] } = some (.string (bs (X ++ zeros (k + 1)))) := by
              have := catB_bs (X ++ zeros k) [0] (by rw [hlk]; show _ + 1 ≤ _; omega)
              rw [List.append_assoc, ← zeros_succ] at this
              exact this
            have hlz : ((X ++ zeros k).length : Int) < (n : Int) := by rw [hlk]; exact c5
            generalize X ++ zeros k = Z at *
            simp only [push_cast, Nat.reduceAdd, Nat.reduceSub, Nat.reduceMul, Nat.reduceLT, Nat.reduceLeDiff, Nat.reduceEqDiff, Nat.reduceMod, Nat.reduceDiv, Int.reduceAdd, Int.reduceSub, Int.reduceMul, Int.reduceLT, Int.reduceLE, Int.reduceEq, Int.reduceNeg, Int.reduceToNat, reduceIte, reduceCtorEq, hlz, ct]
            exact ⟨k + 1, by omega, by omega, rfl⟩
          · have hlz : ¬ ((X ++ zeros k).length : Int) < (n : Int) := by rw [hlk]; omega
            have hnz : (n : Int) ≤ ((X ++ zeros k).length : Int) := by omega
            have hnz' : n ≤ (X ++ zeros k).length := by omega
            have hRz : List.take n (X ++ zeros k) = R := by
              rw [hR, memL_eq, ← hX]
              congr 2
              congr 1
              omega
            generalize X ++ zeros k = Z at *
            simp only [push_cast, Nat.reduceAdd, Nat.reduceSub, Nat.reduceMul, Nat.reduceLT, Nat.reduceLeDiff, Nat.reduceEqDiff, Nat.reduceMod, Nat.reduceDiv, Int.reduceAdd, Int.reduceSub, Int.reduceMul, Int.reduceLT, Int.reduceLE, Int.reduceEq, Int.reduceNeg, Int.reduceToNat, reduceIte, reduceCtorEq, hlz, hnz, hnz', hRz]
            done
theorem memG_ok (args : List Value) (v : Value) (h : memG args = some v) : CallsV Try.prog 9 args [] (Ret0 v) := by
  unfold memG at h
  split at h
  · split at h
    · rename_i b c hc
      cases h
      rw [i64B_eq, decide_eq_true_eq] at hc
      exact mem_ok b c hc
    · cases h
  · cases h
theorem awakeG_ok (args : List Value) (v : Value) (h : awakeG args = some v) : CallsV Try.prog 8 args [] (Ret0 v) := by
  unfold awakeG at h
  split at h
  · cases h; exact awake_ok
  · cases h
noncomputable def gO : Gam := (addG 8 awakeG (addG 9 memG gO0))
attribute [push_cast] gO
theorem gO_ok : GamOk Try.prog gO := (addG_ok awakeG_ok (addG_ok memG_ok gO0_ok))
end Go.Proofs.Ytcglhlmajgpglaa
