/- St: MemoryBack. -/
import Derived.Test.YtcglhlmajgpglaaSs
set_option linter.unusedSimpArgs false
set_option linter.unusedVariables false
namespace Go.Ev
theorem l_append {α : Type} (a b : List α) : List.append a b = a ++ b := rfl
attribute [push_cast] l_append bs_mk
theorem mid_pre {l m : List UInt8} {a : Nat} (h3 : a + m.length ≤ l.length) : (l.take a ++ m ++ l.drop (a + m.length)).take a = l.take a := by
  rw [List.append_assoc, List.take_left' (by rw [List.length_take]; omega)]
theorem mid_suf {l m : List UInt8} {a : Nat} (h3 : a + m.length ≤ l.length) : (l.take a ++ m ++ l.drop (a + m.length)).drop (a + m.length) = l.drop (a + m.length) := by
  rw [List.drop_left' (by rw [List.length_append, List.length_take]; omega)]
theorem load_bs {l : List UInt8} {a : Nat} (h1 : l.length ≤ 1048576) (h2 : l.length % 32 = 0) (h3 : a + 32 ≤ l.length) : loadP (bs l) (a : Int) = (frombW ((l.drop a).take 32), 0) := by
  unfold loadP
  rw [bs_size, thereB_eq, mayB_eq, if_pos (by rw [decide_eq_true ⟨h1, h2⟩, Bool.true_and, decide_eq_true_eq]; omega), bs_data]
  rfl
end Go.Ev
namespace Go.Proofs.Ytcglhlmajgpglaa
open Go Go.Ev Go.Proofs
set_option maxRecDepth 100000
set_option maxHeartbeats 4000000
def plB : Plans := fun i => if i = 1 then [(0, 9)] else if i = 7 then [(0, 9)] else if i = 11 then [(0, 9)] else Try.pl7 i
attribute [push_cast] plB
theorem memoryBack0 (s : ByteArray) (words at_ : Int) (w : W) (put : ByteArray) (h1 : i64In words) (h2 : i64In at_) : CallsV Try.prog 7 [.string s, .int .i64 words, .int .i64 at_, w.v, .string put] [] (Ret0 (.bool true)) := by
  obtain ⟨l, rfl⟩ := bs_of s
  obtain ⟨l2, rfl⟩ := bs_of put
  have j1 := i64B_in h1
  have j2 := i64B_in h2
  have j3 : i64B 16 = true := i64B_in (by decide)
  have q1 : posB 16 = true := posB_in (by decide)
  have hp0 := pickN_lt words (n := 16) (by decide)
  obtain ⟨k, hk, hkl, _⟩ := min_len l 40 (by decide)
  obtain ⟨k2, hk2, hkl2, hk3⟩ := min_len l2 30 (by decide)
  obtain ⟨p, ep⟩ : ∃ p, p = pickN words 16 := ⟨_, rfl⟩
  rw [← ep] at hp0
  obtain ⟨q, hq⟩ : ∃ q, q = p + 1 := ⟨_, rfl⟩
  have eq_ : (1 : Int) + (p : Int) = (q : Int) := by omega
  have jq : i64B (q : Int) = true := i64B_in ⟨by omega, by omega⟩
  have pq : pickN (q : Int) 17 = q := by rw [pickN_eq, if_neg (by omega)]; omega
  obtain ⟨M, hM⟩ : ∃ M, M = memL (List.take k l) (32 * q) := ⟨_, rfl⟩
  have hML : M.length = 32 * q := by rw [hM, memL_len]
  obtain ⟨P, hP⟩ : ∃ P, P = List.take k2 l2 := ⟨_, rfl⟩
  have hPL : P.length ≤ 30 := by rw [hP, List.length_take]; omega
  obtain ⟨z, hz⟩ : ∃ z : Nat, z = 32 * q - 31 := ⟨_, rfl⟩
  have ez : (M.length : Int) - 31 = (z : Int) := by omega
  have jz : i64B (z : Int) = true := i64B_in ⟨by omega, by omega⟩
  have qz : posB (z : Int) = true := posB_in (by omega)
  have hK := pickN_lt at_ (n := (z : Int)) (by omega)
  obtain ⟨K, eK⟩ : ∃ p, p = pickN at_ (z : Int) := ⟨_, rfl⟩
  rw [← eK] at hK
  have hwl := wbytes_len w
  obtain ⟨A, hA⟩ : ∃ A, A = M.take K ++ wbytes w ++ M.drop (K + (wbytes w).length) := ⟨_, rfl⟩
  obtain ⟨B, hB⟩ : ∃ A, A = M.take K ++ P ++ M.drop (K + P.length) := ⟨_, rfl⟩
  obtain ⟨d, hd⟩ : ∃ d, d = UInt8.ofNat (digN w.num 0) := ⟨_, rfl⟩
  obtain ⟨C, hC⟩ : ∃ A, A = M.take K ++ [d] ++ M.drop (K + [d].length) := ⟨_, rfl⟩
  have hdl : [d].length = 1 := rfl
  have hAL : A.length = M.length := by rw [hA, mid_len (by omega)]
  have hBL : B.length = M.length := by rw [hB, mid_len (by omega)]
  have hCL : C.length = M.length := by rw [hC, mid_len (by omega)]
  have f1 : copyP (bs M) (K : Int) (bs (wbytes w)) = (bs A, 0) := by rw [hA]; exact copy_bs (by omega) (by omega) (by omega)
  have f2 : loadP (bs A) (K : Int) = (w, 0) := by
    rw [load_bs (by omega) (by omega) (by omega), hA, show 32 = (wbytes w).length by omega, mid_take (by omega), fromb_wbytes]
  have f3 : copyP (bs M) (K : Int) (bs P) = (bs B, 0) := by rw [hB]; exact copy_bs (by omega) (by omega) (by omega)
  have f4 : sliceP (bs B) (K : Int) (P.length : Int) = (bs P, 0) := by rw [slice_bs (by omega) (by omega) (by omega), hB, mid_take (by omega)]
  have f5 : copyP (bs M) (K : Int) (byteP w) = (bs C, 0) := by unfold byteP; rw [hC, ← hd]; exact copy_bs (by omega) (by omega) (by omega)
  have f6 : sliceP (bs A) (K : Int) 32 = (bs (wbytes w), 0) := by
    have := slice_bs (l := A) (a := K) (n := 32) (by omega) (by omega) (by omega)
    rw [show (32 : Int) = ((32 : Nat) : Int) from rfl, this]
    congr 2
    rw [hA]
    have e := mid_take (l := M) (m := wbytes w) (a := K) (by omega)
    rw [hwl] at e ⊢
    exact e
  obtain ⟨u, hu⟩ : ∃ u, u = M.take K := ⟨_, rfl⟩
  have t1 : List.take K A = u := by rw [hA, mid_pre (by omega), hu]
  have t2 : List.take K B = u := by rw [hB, mid_pre (by omega), hu]
  have t3 : List.take K C = u := by rw [hC, mid_pre (by omega), hu]
  obtain ⟨K32, eK32⟩ : ∃ n : Nat, n = K + 32 := ⟨_, rfl⟩
  obtain ⟨K1, eK1⟩ : ∃ n : Nat, n = K + 1 := ⟨_, rfl⟩
  obtain ⟨KP, eKP⟩ : ∃ n : Nat, n = K + P.length := ⟨_, rfl⟩
  have i1 : (K : Int) + 32 = (K32 : Int) := by omega
  have i2 : (K : Int) + 1 = (K1 : Int) := by omega
  have i3 : (K : Int) + (P.length : Int) = (KP : Int) := by omega
  have d1 : List.drop K32 A = List.drop K32 M := by rw [hA, eK32, ← hwl, mid_suf (by omega)]
  have d2 : List.drop KP B = List.drop KP M := by rw [hB, eKP, mid_suf (by omega)]
  have d3 : List.drop K1 C = List.drop K1 M := by rw [hC, eK1, ← hdl, mid_suf (by omega)]
  have b1 : (bs C).data[K]? = some d := by
    rw [bs_idx (by omega)]
    congr 1
    subst hC
    rw [List.getElem_append_left (by rw [List.length_append, List.length_take, hdl]; omega), List.getElem_append_right (by rw [List.length_take]; omega)]
    exact List.getElem_singleton _
  have b2 : (bs (wbytes w)).data[31]? = some d := by
    have hg := wbytes_at w (j := 31) (by decide)
    rw [List.getElem?_eq_getElem (by omega)] at hg
    rw [bs_idx (by omega), Option.some.inj hg, hd]
  have n1 : K ≤ M.length := by omega
  have n2 : K32 ≤ M.length := by omega
  have n3 : K1 ≤ M.length := by omega
  have n4 : KP ≤ M.length := by omega
  have n5 : K < M.length := by omega
  refine callsO gO_ok Try.mix plB Try.func7 rfl Try.ntmps7 Try.results7 rfl (by first | rfl | assumption) (Nat.le_of_ble_eq_true rfl) (by kernel_rfl) ?_
  simp only [push_cast, Nat.reduceAdd, Nat.reduceSub, Nat.reduceMul, Nat.reduceLT, Nat.reduceLeDiff, Nat.reduceEqDiff, Nat.reduceMod, Nat.reduceDiv, Int.reduceAdd, Int.reduceSub, Int.reduceMul, Int.reduceLT, Int.reduceLE, Int.reduceEq, Int.reduceNeg, Int.reduceToNat, reduceIte, reduceCtorEq]
  intro b8
  refine regO gO_ok ?_
  simp only [push_cast, Nat.reduceAdd, Nat.reduceSub, Nat.reduceMul, Nat.reduceLT, Nat.reduceLeDiff, Nat.reduceEqDiff, Nat.reduceMod, Nat.reduceDiv, Int.reduceAdd, Int.reduceSub, Int.reduceMul, Int.reduceLT, Int.reduceLE, Int.reduceEq, Int.reduceNeg, Int.reduceToNat, reduceIte, reduceCtorEq, j1, j2, j3, q1, hk, hkl, ← ep, eq_, wrap_i64' (show -9223372036854775808 ≤ (q : Int) ∧ (q : Int) ≤ 9223372036854775807 by omega), jq, pq, ← hM, hk2, hkl2, ← hP, ez, wrap_i64' (show -9223372036854775808 ≤ (z : Int) ∧ (z : Int) ≤ 9223372036854775807 by omega), jz, qz, ← eK, f1, f2]
  intro b17 hb17
  refine regO gO_ok ?_
  simp only [push_cast, Nat.reduceAdd, Nat.reduceSub, Nat.reduceMul, Nat.reduceLT, Nat.reduceLeDiff, Nat.reduceEqDiff, Nat.reduceMod, Nat.reduceDiv, Int.reduceAdd, Int.reduceSub, Int.reduceMul, Int.reduceLT, Int.reduceLE, Int.reduceEq, Int.reduceNeg, Int.reduceToNat, reduceIte, reduceCtorEq, hb17, f3, f4, f5, f6]
  refine regO gO_ok ?_
  simp only [push_cast, Nat.reduceAdd, Nat.reduceSub, Nat.reduceMul, Nat.reduceLT, Nat.reduceLeDiff, Nat.reduceEqDiff, Nat.reduceMod, Nat.reduceDiv, Int.reduceAdd, Int.reduceSub, Int.reduceMul, Int.reduceLT, Int.reduceLE, Int.reduceEq, Int.reduceNeg, Int.reduceToNat, reduceIte, reduceCtorEq, hb17, f3, f4, f5, f6, hAL, hBL, hCL, hwl, t1, t2, t3, ← hu, i1, i2, i3, wrap_i64' (show -9223372036854775808 ≤ (K32 : Int) ∧ (K32 : Int) ≤ 9223372036854775807 by omega), wrap_i64' (show -9223372036854775808 ≤ (K1 : Int) ∧ (K1 : Int) ≤ 9223372036854775807 by omega), wrap_i64' (show -9223372036854775808 ≤ (KP : Int) ∧ (KP : Int) ≤ 9223372036854775807 by omega), d1, d2, d3, b1, b2, n1, n2, n3, n4, n5, beq_self_eq_true, Bool.not_true, eq_self, decide_true]
theorem memoryBack_ok {H : Hp} {s : ByteArray} {words at_ : Int} {w : W} {put : ByteArray} (hm : marksOf H = []) (hs : s.size ≤ maxLen) (h1 : i64In words) (h2 : i64In at_) (hp : put.size ≤ maxLen) : CallsV Try.prog 7 [.string s, .int .i64 words, .int .i64 at_, w.v, .string put] H (Ret0 (.bool true)) := (memoryBack0 s words at_ w put h1 h2).onto hm
end Go.Proofs.Ytcglhlmajgpglaa
