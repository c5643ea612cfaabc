/- Sc: texts as lists of bytes; memory: within, may, there, noughts, Cost. -/
import Derived.Test.YtcglhlmajgpglaaSb
import Derived.Test.YtcglhlmajgpglaaShelf
import Derived.Laws.Strings
import Derived.Laws.Strings2
import Derived.Lib.Repeat
set_option linter.unusedSimpArgs false
set_option linter.unusedVariables false
namespace Go.Ev
def bs (l : List UInt8) : ByteArray := ⟨l.toArray⟩
theorem bs_of (b : ByteArray) : ∃ l, b = bs l := ⟨b.data.toList, by unfold bs; simp⟩
theorem bs_size (l : List UInt8) : (bs l).size = l.length := by simp [bs, ByteArray.size]
theorem bs_data (l : List UInt8) : (bs l).data.toList = l := by simp [bs]
theorem bs_toList (l : List UInt8) : (bs l).toList = l := by unfold bs; exact ByteArray.toList_mk l
theorem bs_extract (l : List UInt8) (i j : Nat) : (bs l).extract i j = bs ((l.drop i).take (j - i)) := ByteArray.extract_mk l i j
theorem bs_append (l m : List UInt8) : bs l ++ bs m = bs (l ++ m) := by
  have : (bs l ++ bs m).data = (bs (l ++ m)).data := by rw [ByteArray.data_append]; simp [bs]
  exact congrArg ByteArray.mk this
theorem bs_inj {l m : List UInt8} (h : bs l = bs m) : l = m := by rw [← bs_data l, h, bs_data]
theorem bs_nil : ({ data := #[] } : ByteArray) = bs [] := rfl
theorem bs_mk (l : List UInt8) : ({ data := l.toArray } : ByteArray) = bs l := rfl
attribute [push_cast] bs_size bs_data bs_toList bs_extract bs_append
def zeros (n : Nat) : List UInt8 := List.replicate n 0
theorem zeros_len (n : Nat) : (zeros n).length = n := by simp [zeros]
noncomputable def mayB : Nat → Bool := hid fun n => decide (n ≤ 1048576 ∧ n % 32 = 0)
theorem mayB_eq (n : Nat) : mayB n = decide (n ≤ 1048576 ∧ n % 32 = 0) := by unfold mayB; rw [hid_eq]
noncomputable def thereB : Nat → Int → Int → Bool := hid fun s a n => mayB s && decide (0 ≤ n ∧ 0 ≤ a ∧ a ≤ s ∧ n ≤ s - a)
theorem thereB_eq (s : Nat) (a n : Int) : thereB s a n = (mayB s && decide (0 ≤ n ∧ 0 ≤ a ∧ a ≤ s ∧ n ≤ s - a)) := by unfold thereB; rw [hid_eq]
noncomputable def withI : Int → Int → Int → Int := hid fun x l m => if l ≤ (if x ≤ m then x else m) then (if x ≤ m then x else m) else l
theorem withI_eq (x l m : Int) : withI x l m = if l ≤ (if x ≤ m then x else m) then (if x ≤ m then x else m) else l := by unfold withI; rw [hid_eq]
noncomputable def nB : Int → Bool := hid fun n => decide (-4611686018427387904 ≤ n ∧ n ≤ 1099511627776)
theorem nB_eq (n : Int) : nB n = decide (-4611686018427387904 ≤ n ∧ n ≤ 1099511627776) := by unfold nB; rw [hid_eq]
theorem nB_in {n : Int} (h : -4611686018427387904 ≤ n ∧ n ≤ 1099511627776) : nB n = true := by rw [nB_eq, decide_eq_true h]
noncomputable def costI : Int → Int := hid fun n => 3 * withI n 0 32768 + withI n 0 32768 * withI n 0 32768 / 512
theorem costI_eq (n : Int) : costI n = 3 * withI n 0 32768 + withI n 0 32768 * withI n 0 32768 / 512 := by unfold costI; rw [hid_eq]
noncomputable def mayG : List Value → Option Value
  | [.string b] => some (.bool (mayB b.size))
  | _ => none
noncomputable def thereG : List Value → Option Value
  | [.string b, .int .i64 a, .int .i64 n] => some (.bool (thereB b.size a n))
  | _ => none
noncomputable def withG : List Value → Option Value
  | [.int .i64 x, .int .i64 l, .int .i64 m] => some (.int .i64 (withI x l m))
  | _ => none
noncomputable def noughtsG : List Value → Option Value
  | [.int .i64 n] => if nB n then some (.string (bs (zeros n.toNat))) else none
  | _ => none
noncomputable def costG : List Value → Option Value
  | [.int .i64 n] => some (.int .i64 (costI n))
  | _ => none
attribute [push_cast] mayG thereG withG noughtsG costG
theorem CallsV.of_calls {P : Program} {g : FuncId} {args : List Value} {v : Value} (he : ∀ (xs : Array Value) (w : World), (callFunc g xs).run P w = .ok (.enter g xs) w)
    (h : ∀ w, Calls P g args.toArray w fun e w' => e = .returned v ∧ RowKit.Below w.heap.size w w') : CallsV P g args [] (Ret0 v) := by
  refine ⟨he, fun w0 mu w hs => ?_⟩
  have h2 : CallsIn (Fr none) 0 P g args.toArray w fun e w' => e = .returned v ∧ RowKit.Below w.heap.size w w' := callsIn_wide.2 (h w)
  refine h2.mono ?_
  rintro e w' ⟨rfl, hb⟩
  refine ⟨v, [], rfl, ⟨rfl, rfl⟩, ⟨hb.os.trans hs.os, hb.tape.trans hs.tape, hb.output.trans hs.output, Nat.le_trans hs.size hb.size, fun b hbl hm => ?_, (fun e he => by cases he), (fun e he => by cases he), List.Pairwise.nil⟩, rfl⟩
  rw [hb.block b (Nat.lt_of_lt_of_le hbl hs.size)]
  exact hs.old b hbl hm
end Go.Ev
namespace Go.Proofs.Ytcglhlmajgpglaa
open Go Go.Ev Go.Proofs
set_option maxRecDepth 100000
set_option maxHeartbeats 4000000
theorem within_ok (x l m : Int) : CallsV Try.prog 32 [.int .i64 x, .int .i64 l, .int .i64 m] [] (Ret0 (.int .i64 (withI x l m))) := by
  refine callsO (noG_ok _) Try.mix Try.pl32 Try.func32 rfl Try.ntmps32 Try.results32 rfl (by first | rfl | assumption) (Nat.le_of_ble_eq_true rfl) (by kernel_rfl) ?_
  simp only [push_cast, Nat.reduceAdd, Nat.reduceSub, Nat.reduceMul, Nat.reduceLT, Nat.reduceLeDiff, Nat.reduceEqDiff, Nat.reduceMod, Nat.reduceDiv, Int.reduceAdd, Int.reduceSub, Int.reduceMul, Int.reduceLT, Int.reduceLE, Int.reduceEq, Int.reduceNeg, Int.reduceToNat, reduceIte, reduceCtorEq]
  rw [withI_eq]
  congr 1
  repeat' split
  all_goals omega
theorem may_ok (b : ByteArray) : CallsV Try.prog 31 [.string b] [] (Ret0 (.bool (mayB b.size))) := by
  rw [mayB_eq]
  generalize hn : b.size = n
  obtain ⟨r, hr⟩ : ∃ r, r = n % 32 := ⟨_, rfl⟩
  have er : (n : Int).tmod 32 = (r : Int) := by rw [hr]; rfl
  refine callsO (noG_ok _) Try.mix Try.pl31 Try.func31 rfl Try.ntmps31 Try.results31 rfl (by first | rfl | assumption) (Nat.le_of_ble_eq_true rfl) (by kernel_rfl) ?_
  by_cases h : n ≤ 1048576
  · have h1 : (n : Int) ≤ 1048576 := by omega
    simp only [push_cast, Nat.reduceAdd, Nat.reduceSub, Nat.reduceMul, Nat.reduceLT, Nat.reduceLeDiff, Nat.reduceEqDiff, Nat.reduceMod, Nat.reduceDiv, Int.reduceAdd, Int.reduceSub, Int.reduceMul, Int.reduceLT, Int.reduceLE, Int.reduceEq, Int.reduceNeg, Int.reduceToNat, reduceIte, reduceCtorEq, hn, h1, er, wrap_i64' (show -9223372036854775808 ≤ (r : Int) ∧ (r : Int) ≤ 9223372036854775807 by omega)]
    rw [← hr]
    by_cases h0 : r = 0
    · subst h0; simp [h]
    · simp [h0]
  · have h1 : ¬ (n : Int) ≤ 1048576 := by omega
    simp only [push_cast, Nat.reduceAdd, Nat.reduceSub, Nat.reduceMul, Nat.reduceLT, Nat.reduceLeDiff, Nat.reduceEqDiff, Nat.reduceMod, Nat.reduceDiv, Int.reduceAdd, Int.reduceSub, Int.reduceMul, Int.reduceLT, Int.reduceLE, Int.reduceEq, Int.reduceNeg, Int.reduceToNat, reduceIte, reduceCtorEq, hn, h1]
    simp [h]
theorem mayG_ok (args : List Value) (v : Value) (h : mayG args = some v) : CallsV Try.prog 31 args [] (Ret0 v) := by
  unfold mayG at h
  split at h
  · cases h; exact may_ok _
  · cases h
theorem withG_ok (args : List Value) (v : Value) (h : withG args = some v) : CallsV Try.prog 32 args [] (Ret0 v) := by
  unfold withG at h
  split at h
  · cases h; exact within_ok _ _ _
  · cases h
noncomputable def gN0 : Gam := (addG 32 withG (addG 31 mayG noG))
attribute [push_cast] gN0
theorem gN0_ok : GamOk Try.prog gN0 := (addG_ok withG_ok (addG_ok mayG_ok (noG_ok _)))
theorem there_ok (b : ByteArray) (a n : Int) : CallsV Try.prog 39 [.string b, .int .i64 a, .int .i64 n] [] (Ret0 (.bool (thereB b.size a n))) := by
  rw [thereB_eq]
  have hm := mayB_eq b.size
  generalize hs : b.size = s at *
  generalize hmb : mayB s = m at *
  refine callsO gN0_ok Try.mix Try.pl39 Try.func39 rfl Try.ntmps39 Try.results39 rfl (by first | rfl | assumption) (Nat.le_of_ble_eq_true rfl) (by kernel_rfl) ?_
  cases m
  · simp only [push_cast, Nat.reduceAdd, Nat.reduceSub, Nat.reduceMul, Nat.reduceLT, Nat.reduceLeDiff, Nat.reduceEqDiff, Nat.reduceMod, Nat.reduceDiv, Int.reduceAdd, Int.reduceSub, Int.reduceMul, Int.reduceLT, Int.reduceLE, Int.reduceEq, Int.reduceNeg, Int.reduceToNat, reduceIte, reduceCtorEq, hs, hmb]
  · have hs2 := of_decide_eq_true hm.symm
    by_cases h1 : 0 ≤ n
    · by_cases h2 : 0 ≤ a
      · by_cases h3 : a ≤ (s : Int)
        · simp only [push_cast, Nat.reduceAdd, Nat.reduceSub, Nat.reduceMul, Nat.reduceLT, Nat.reduceLeDiff, Nat.reduceEqDiff, Nat.reduceMod, Nat.reduceDiv, Int.reduceAdd, Int.reduceSub, Int.reduceMul, Int.reduceLT, Int.reduceLE, Int.reduceEq, Int.reduceNeg, Int.reduceToNat, reduceIte, reduceCtorEq, hs, hmb, h1, h2, h3, wrap_i64' (show -9223372036854775808 ≤ (s : Int) - a ∧ (s : Int) - a ≤ 9223372036854775807 by omega)]
        · simp only [push_cast, Nat.reduceAdd, Nat.reduceSub, Nat.reduceMul, Nat.reduceLT, Nat.reduceLeDiff, Nat.reduceEqDiff, Nat.reduceMod, Nat.reduceDiv, Int.reduceAdd, Int.reduceSub, Int.reduceMul, Int.reduceLT, Int.reduceLE, Int.reduceEq, Int.reduceNeg, Int.reduceToNat, reduceIte, reduceCtorEq, hs, hmb, h1, h2, h3]
      · simp only [push_cast, Nat.reduceAdd, Nat.reduceSub, Nat.reduceMul, Nat.reduceLT, Nat.reduceLeDiff, Nat.reduceEqDiff, Nat.reduceMod, Nat.reduceDiv, Int.reduceAdd, Int.reduceSub, Int.reduceMul, Int.reduceLT, Int.reduceLE, Int.reduceEq, Int.reduceNeg, Int.reduceToNat, reduceIte, reduceCtorEq, hs, hmb, h1, h2]
    · simp only [push_cast, Nat.reduceAdd, Nat.reduceSub, Nat.reduceMul, Nat.reduceLT, Nat.reduceLeDiff, Nat.reduceEqDiff, Nat.reduceMod, Nat.reduceDiv, Int.reduceAdd, Int.reduceSub, Int.reduceMul, Int.reduceLT, Int.reduceLE, Int.reduceEq, Int.reduceNeg, Int.reduceToNat, reduceIte, reduceCtorEq, hs, hmb, h1]
theorem thereG_ok (args : List Value) (v : Value) (h : thereG args = some v) : CallsV Try.prog 39 args [] (Ret0 v) := by
  unfold thereG at h
  split at h
  · cases h; exact there_ok _ _ _
  · cases h
theorem cost_ok (n : Int) : CallsV Try.prog 14 [.int .i64 n] [] (Ret0 (.int .i64 (costI n))) := by
  rw [costI_eq]
  have hk : 0 ≤ withI n 0 32768 ∧ withI n 0 32768 ≤ 32768 := by rw [withI_eq]; repeat' split <;> omega
  generalize hw : withI n 0 32768 = k at *
  have hq0 : 0 ≤ k * k := Int.mul_nonneg hk.1 hk.1
  have hq : k * k ≤ 32768 * 32768 := Int.mul_le_mul hk.2 hk.2 hk.1 (by decide)
  generalize hq2 : k * k = q at *
  have e : q.tdiv 512 = q / 512 := Int.tdiv_eq_ediv_of_nonneg hq0
  refine callsO gN0_ok Try.mix Try.pl14 Try.func14 rfl Try.ntmps14 Try.results14 rfl (by first | rfl | assumption) (Nat.le_of_ble_eq_true rfl) (by kernel_rfl) ?_
  simp only [push_cast, Nat.reduceAdd, Nat.reduceSub, Nat.reduceMul, Nat.reduceLT, Nat.reduceLeDiff, Nat.reduceEqDiff, Nat.reduceMod, Nat.reduceDiv, Int.reduceAdd, Int.reduceSub, Int.reduceMul, Int.reduceLT, Int.reduceLE, Int.reduceEq, Int.reduceNeg, Int.reduceToNat, reduceIte, reduceCtorEq, hw, hq2, e, wrap_i64' (show -9223372036854775808 ≤ q ∧ q ≤ 9223372036854775807 by omega), wrap_i64' (show -9223372036854775808 ≤ 3 * k ∧ 3 * k ≤ 9223372036854775807 by omega), wrap_i64' (show -9223372036854775808 ≤ q / 512 ∧ q / 512 ≤ 9223372036854775807 by omega), wrap_i64' (show -9223372036854775808 ≤ 3 * k + q / 512 ∧ 3 * k + q / 512 ≤ 9223372036854775807 by omega)]
theorem costG_ok (args : List Value) (v : Value) (h : costG args = some v) : CallsV Try.prog 14 args [] (Ret0 v) := by
  unfold costG at h
  split at h
  · cases h; exact cost_ok _
  · cases h
theorem noughts_ok (n : Int) (hn : -4611686018427387904 ≤ n ∧ n ≤ 1099511627776) : CallsV Try.prog 35 [.int .i64 n] [] (Ret0 (.string (bs (zeros n.toNat)))) := by
  have em : (if n < 0 then (0 : Int) else n) = (n.toNat : Int) := by split <;> omega
  have hrep : CallsV Try.prog 50 [.string { data := #[0] }, .int .i64 (n.toNat : Int)] [] (Ret0 (.string (bs (zeros n.toNat)))) := by
    refine CallsV.of_calls (enterO Try.func50 rfl rfl) fun w => ?_
    have h := Try.strings_Repeat { data := #[0] } n.toNat w (by omega) (by show 1 * n.toNat ≤ _; omega)
    have e : Lib.repeatL ({ data := #[0] } : ByteArray).data.toList n.toNat = zeros n.toNat := by
      have := Lib.repeatL_replicate (0 : UInt8) 1 n.toNat
      rw [Nat.mul_one] at this
      exact this
    rw [e] at h
    exact h
  refine callsO gN0_ok Try.mix Try.pl35 Try.func35 rfl Try.ntmps35 Try.results35 rfl (by first | rfl | assumption) (Nat.le_of_ble_eq_true rfl) (by kernel_rfl) ?_
  simp only [push_cast, Nat.reduceAdd, Nat.reduceSub, Nat.reduceMul, Nat.reduceLT, Nat.reduceLeDiff, Nat.reduceEqDiff, Nat.reduceMod, Nat.reduceDiv, Int.reduceAdd, Int.reduceSub, Int.reduceMul, Int.reduceLT, Int.reduceLE, Int.reduceEq, Int.reduceNeg, Int.reduceToNat, reduceIte, reduceCtorEq, em]
  refine hrep.pure trivial ?_
  simp only [push_cast, Nat.reduceAdd, Nat.reduceSub, Nat.reduceMul, Nat.reduceLT, Nat.reduceLeDiff, Nat.reduceEqDiff, Nat.reduceMod, Nat.reduceDiv, Int.reduceAdd, Int.reduceSub, Int.reduceMul, Int.reduceLT, Int.reduceLE, Int.reduceEq, Int.reduceNeg, Int.reduceToNat, reduceIte, reduceCtorEq]
theorem noughtsG_ok (args : List Value) (v : Value) (h : noughtsG args = some v) : CallsV Try.prog 35 args [] (Ret0 v) := by
  unfold noughtsG at h
  split at h
  · split at h
    · rename_i n hn
      cases h
      rw [nB_eq, decide_eq_true_eq] at hn
      exact noughts_ok _ hn
    · cases h
  · cases h
noncomputable def gN : Gam := (addG 35 noughtsG (addG 14 costG (addG 39 thereG gN0)))
attribute [push_cast] gN
theorem gN_ok : GamOk Try.prog gN := (addG_ok noughtsG_ok (addG_ok costG_ok (addG_ok thereG_ok gN0_ok)))
end Go.Proofs.Ytcglhlmajgpglaa
