/- Sm: the document's memory: may, there, Cost, Slice, Copy, Load, Store, Byte, Need, Grow, Piece. -/
import Derived.Test.YtcglhlmajgpglaaSl
set_option linter.unusedSimpArgs false
set_option linter.unusedVariables false
namespace Go.Ev
theorem repV_rep1 (x : Value) : ∀ n, repV n [x] = List.replicate n x
  | 0 => rfl
  | n + 1 => by rw [List.replicate_succ, ← repV_rep1 x n]; rfl
theorem repV_zeros (n : Nat) : repV n [.int .u8 0] = byteV (zeros n) := by
  rw [repV_rep1]
  unfold byteV zeros
  rw [List.map_replicate]; rfl
end Go.Ev
namespace Go.Proofs.Ytcglhlmajgpglaa
open Go Go.Ev Go.Proofs
set_option maxRecDepth 100000
set_option maxHeartbeats 4000000
theorem rmay_ok (b : ByteArray) : CallsV Try.prog 41 [.string b] [] (Ret0 (.bool (mayB b.size))) := by
  rw [mayB_eq]
  generalize hn : b.size = n
  obtain ⟨r, hr⟩ : ∃ r, r = n % 32 := ⟨_, rfl⟩
  have er : (n : Int).tmod 32 = (r : Int) := by rw [hr]; rfl
  refine callsO gL_ok Try.mix Try.pl41 Try.func41 rfl Try.ntmps41 Try.results41 rfl (by first | rfl | assumption) (Nat.le_of_ble_eq_true rfl) (by kernel_rfl) ?_
  by_cases h : n ≤ 1048576
  · have h1 : (n : Int) ≤ 1048576 := by omega
    simp only [push_cast, Nat.reduceAdd, Nat.reduceSub, Nat.reduceMul, Nat.reduceLT, Nat.reduceLeDiff, Nat.reduceEqDiff, Nat.reduceMod, Nat.reduceDiv, Int.reduceAdd, Int.reduceSub, Int.reduceMul, Int.reduceLT, Int.reduceLE, Int.reduceEq, Int.reduceNeg, Int.reduceToNat, reduceIte, reduceCtorEq, hn, h1, er, wrap_i64' (show -9223372036854775808 ≤ (r : Int) ∧ (r : Int) ≤ 9223372036854775807 by omega)]
    rw [← hr]
    by_cases h0 : r = 0
    · subst h0; simp [h]
    · simp [h0]
  · have h1 : ¬ (n : Int) ≤ 1048576 := by omega
    simp only [push_cast, Nat.reduceAdd, Nat.reduceSub, Nat.reduceMul, Nat.reduceLT, Nat.reduceLeDiff, Nat.reduceEqDiff, Nat.reduceMod, Nat.reduceDiv, Int.reduceAdd, Int.reduceSub, Int.reduceMul, Int.reduceLT, Int.reduceLE, Int.reduceEq, Int.reduceNeg, Int.reduceToNat, reduceIte, reduceCtorEq, hn, h1]
    simp [h]
theorem rcost_ok (n : Int) : CallsV Try.prog 18 [.int .i64 n] [] (Ret0 (.int .i64 (costI n))) := by
  rw [costI_eq]
  have hk : 0 ≤ withI n 0 32768 ∧ withI n 0 32768 ≤ 32768 := by rw [withI_eq]; repeat' split <;> omega
  have e0 : (if (if 32768 < n then (32768 : Int) else n) > 0 then (if 32768 < n then (32768 : Int) else n) else 0) = withI n 0 32768 := by rw [withI_eq]; repeat' split <;> omega
  generalize withI n 0 32768 = k at *
  have hq0 : 0 ≤ k * k := Int.mul_nonneg hk.1 hk.1
  have hq : k * k ≤ 32768 * 32768 := Int.mul_le_mul hk.2 hk.2 hk.1 (by decide)
  generalize hq2 : k * k = q at *
  have e : q.tdiv 512 = q / 512 := Int.tdiv_eq_ediv_of_nonneg hq0
  refine callsO gL_ok Try.mix Try.pl18 Try.func18 rfl Try.ntmps18 Try.results18 rfl (by first | rfl | assumption) (Nat.le_of_ble_eq_true rfl) (by kernel_rfl) ?_
  simp only [push_cast, Nat.reduceAdd, Nat.reduceSub, Nat.reduceMul, Nat.reduceLT, Nat.reduceLeDiff, Nat.reduceEqDiff, Nat.reduceMod, Nat.reduceDiv, Int.reduceAdd, Int.reduceSub, Int.reduceMul, Int.reduceLT, Int.reduceLE, Int.reduceEq, Int.reduceNeg, Int.reduceToNat, reduceIte, reduceCtorEq, e0, hq2, e, wrap_i64' (show -9223372036854775808 ≤ q ∧ q ≤ 9223372036854775807 by omega), wrap_i64' (show -9223372036854775808 ≤ 3 * k ∧ 3 * k ≤ 9223372036854775807 by omega), wrap_i64' (show -9223372036854775808 ≤ q / 512 ∧ q / 512 ≤ 9223372036854775807 by omega), wrap_i64' (show -9223372036854775808 ≤ 3 * k + q / 512 ∧ 3 * k + q / 512 ≤ 9223372036854775807 by omega)]
  done
theorem rmayG_ok (args : List Value) (v : Value) (h : mayG args = some v) : CallsV Try.prog 41 args [] (Ret0 v) := by
  unfold mayG at h
  split at h
  · cases h; exact rmay_ok _
  · cases h
theorem rcostG_ok (args : List Value) (v : Value) (h : costG args = some v) : CallsV Try.prog 18 args [] (Ret0 v) := by
  unfold costG at h
  split at h
  · cases h; exact rcost_ok _
  · cases h
noncomputable def gM1 : Gam := (addG 18 costG (addG 41 mayG gL))
attribute [push_cast] gM1
theorem gM1_ok : GamOk Try.prog gM1 := (addG_ok rcostG_ok (addG_ok rmayG_ok gL_ok))
theorem rthere_ok (b : ByteArray) (a n : Int) : CallsV Try.prog 43 [.string b, .int .i64 a, .int .i64 n] [] (Ret0 (.bool (thereB b.size a n))) := by
  rw [thereB_eq]
  have hm := mayB_eq b.size
  generalize hs : b.size = s at *
  generalize hmb : mayB s = m at *
  refine callsO gM1_ok Try.mix Try.pl43 Try.func43 rfl Try.ntmps43 Try.results43 rfl (by first | rfl | assumption) (Nat.le_of_ble_eq_true rfl) (by kernel_rfl) ?_
  cases m
  · simp only [push_cast, Nat.reduceAdd, Nat.reduceSub, Nat.reduceMul, Nat.reduceLT, Nat.reduceLeDiff, Nat.reduceEqDiff, Nat.reduceMod, Nat.reduceDiv, Int.reduceAdd, Int.reduceSub, Int.reduceMul, Int.reduceLT, Int.reduceLE, Int.reduceEq, Int.reduceNeg, Int.reduceToNat, reduceIte, reduceCtorEq, hs, hmb]
  · have hs2 := of_decide_eq_true hm.symm
    by_cases h1 : 0 ≤ a
    · by_cases h2 : 0 ≤ n
      · by_cases h3 : a ≤ (s : Int)
        · simp only [push_cast, Nat.reduceAdd, Nat.reduceSub, Nat.reduceMul, Nat.reduceLT, Nat.reduceLeDiff, Nat.reduceEqDiff, Nat.reduceMod, Nat.reduceDiv, Int.reduceAdd, Int.reduceSub, Int.reduceMul, Int.reduceLT, Int.reduceLE, Int.reduceEq, Int.reduceNeg, Int.reduceToNat, reduceIte, reduceCtorEq, hs, hmb, h1, h2, h3, wrap_i64' (show -9223372036854775808 ≤ (s : Int) - a ∧ (s : Int) - a ≤ 9223372036854775807 by omega)]
        · simp only [push_cast, Nat.reduceAdd, Nat.reduceSub, Nat.reduceMul, Nat.reduceLT, Nat.reduceLeDiff, Nat.reduceEqDiff, Nat.reduceMod, Nat.reduceDiv, Int.reduceAdd, Int.reduceSub, Int.reduceMul, Int.reduceLT, Int.reduceLE, Int.reduceEq, Int.reduceNeg, Int.reduceToNat, reduceIte, reduceCtorEq, hs, hmb, h1, h2, h3]
      · simp only [push_cast, Nat.reduceAdd, Nat.reduceSub, Nat.reduceMul, Nat.reduceLT, Nat.reduceLeDiff, Nat.reduceEqDiff, Nat.reduceMod, Nat.reduceDiv, Int.reduceAdd, Int.reduceSub, Int.reduceMul, Int.reduceLT, Int.reduceLE, Int.reduceEq, Int.reduceNeg, Int.reduceToNat, reduceIte, reduceCtorEq, hs, hmb, h1, h2]
    · simp only [push_cast, Nat.reduceAdd, Nat.reduceSub, Nat.reduceMul, Nat.reduceLT, Nat.reduceLeDiff, Nat.reduceEqDiff, Nat.reduceMod, Nat.reduceDiv, Int.reduceAdd, Int.reduceSub, Int.reduceMul, Int.reduceLT, Int.reduceLE, Int.reduceEq, Int.reduceNeg, Int.reduceToNat, reduceIte, reduceCtorEq, hs, hmb, h1]
theorem rthereG_ok (args : List Value) (v : Value) (h : thereG args = some v) : CallsV Try.prog 43 args [] (Ret0 v) := by
  unfold thereG at h
  split at h
  · cases h; exact rthere_ok _ _ _
  · cases h
noncomputable def gM2 : Gam := (addG 43 thereG gM1)
attribute [push_cast] gM2
theorem gM2_ok : GamOk Try.prog gM2 := (addG_ok rthereG_ok gM1_ok)
theorem rslice_ok (b : ByteArray) (a n : Int) : CallsV Try.prog 28 [.string b, .int .i64 a, .int .i64 n] [] (Ret0 (.tuple #[.string (sliceP b a n).1, .int .i64 (sliceP b a n).2])) := by
  obtain ⟨l, rfl⟩ := bs_of b
  refine callsO gM2_ok Try.mix Try.pl28 Try.func28 rfl Try.ntmps28 Try.results28 rfl (by first | rfl | assumption) (Nat.le_of_ble_eq_true rfl) (by kernel_rfl) ?_
  cases h : thereB (bs l).size a n
  · have e : sliceP (bs l) a n = (bs [], 1) := by unfold sliceP; rw [if_neg (by rw [h]; decide)]
    rw [bs_size] at h
    simp only [push_cast, Nat.reduceAdd, Nat.reduceSub, Nat.reduceMul, Nat.reduceLT, Nat.reduceLeDiff, Nat.reduceEqDiff, Nat.reduceMod, Nat.reduceDiv, Int.reduceAdd, Int.reduceSub, Int.reduceMul, Int.reduceLT, Int.reduceLE, Int.reduceEq, Int.reduceNeg, Int.reduceToNat, reduceIte, reduceCtorEq, h, e]
    rfl
  · have e : sliceP (bs l) a n = (bs ((l.drop a.toNat).take n.toNat), 0) := by unfold sliceP; rw [if_pos h, bs_data]
    rw [bs_size] at h
    have ht := there_true h
    obtain ⟨c, hc⟩ : ∃ c, c = a + n := ⟨_, rfl⟩
    have c0 : 0 ≤ c := by omega
    have c1 : c ≤ (l.length : Int) := by omega
    have c2 : a ≤ c := by omega
    have c3 : c.toNat - a.toNat = n.toNat := by omega
    have c4 : ¬ c < a := by omega
    have c5 : a ≤ (c.toNat : Int) := by omega
    simp only [push_cast, Nat.reduceAdd, Nat.reduceSub, Nat.reduceMul, Nat.reduceLT, Nat.reduceLeDiff, Nat.reduceEqDiff, Nat.reduceMod, Nat.reduceDiv, Int.reduceAdd, Int.reduceSub, Int.reduceMul, Int.reduceLT, Int.reduceLE, Int.reduceEq, Int.reduceNeg, Int.reduceToNat, reduceIte, reduceCtorEq, h, e, ← hc, wrap_i64' (show -9223372036854775808 ≤ c ∧ c ≤ 9223372036854775807 by omega), c0, c1, c2, c3, c4, c5, ht.1, ht.2.1, ht.2.2.1, ht.2.2.2.1]
theorem rload_ok (b : ByteArray) (a : Int) : CallsV Try.prog 22 [.string b, .int .i64 a] [] (Ret0 (.tuple #[(loadP b a).1.v, .int .i64 (loadP b a).2])) := by
  obtain ⟨l, rfl⟩ := bs_of b
  refine callsO gM2_ok Try.mix (fun i => if i = 1 then [(0, 9)] else Try.pl22 i) Try.func22 rfl Try.ntmps22 Try.results22 rfl (by first | rfl | assumption) (Nat.le_of_ble_eq_true rfl) (by kernel_rfl) ?_
  simp only [push_cast, Nat.reduceAdd, Nat.reduceSub, Nat.reduceMul, Nat.reduceLT, Nat.reduceLeDiff, Nat.reduceEqDiff, Nat.reduceMod, Nat.reduceDiv, Int.reduceAdd, Int.reduceSub, Int.reduceMul, Int.reduceLT, Int.reduceLE, Int.reduceEq, Int.reduceNeg, Int.reduceToNat, reduceIte, reduceCtorEq]
  intro b4
  refine regO gM2_ok ?_
  cases h : thereB (bs l).size a 32
  · have e2 : loadP (bs l) a = (W.zero, 1) := by unfold loadP; rw [if_neg (by rw [h]; decide)]
    rw [bs_size] at h
    simp only [push_cast, Nat.reduceAdd, Nat.reduceSub, Nat.reduceMul, Nat.reduceLT, Nat.reduceLeDiff, Nat.reduceEqDiff, Nat.reduceMod, Nat.reduceDiv, Int.reduceAdd, Int.reduceSub, Int.reduceMul, Int.reduceLT, Int.reduceLE, Int.reduceEq, Int.reduceNeg, Int.reduceToNat, reduceIte, reduceCtorEq, h, e2, szero_agg]
  · have e2 : loadP (bs l) a = (frombW ((l.drop a.toNat).take 32), 0) := by unfold loadP; rw [if_pos h, bs_data]
    have hs : szB ((l.drop a.toNat).take 32).length = true := szB_in (by rw [List.length_take]; omega)
    rw [bs_size] at h
    have ht := there_true h
    obtain ⟨c, hc⟩ : ∃ c, c = a + 32 := ⟨_, rfl⟩
    have c0 : 0 ≤ c := by omega
    have c1 : c ≤ (l.length : Int) := by omega
    have c2 : a ≤ c := by omega
    have c3 : c.toNat - a.toNat = 32 := by omega
    have c5 : a ≤ (c.toNat : Int) := by omega
    simp only [push_cast, Nat.reduceAdd, Nat.reduceSub, Nat.reduceMul, Nat.reduceLT, Nat.reduceLeDiff, Nat.reduceEqDiff, Nat.reduceMod, Nat.reduceDiv, Int.reduceAdd, Int.reduceSub, Int.reduceMul, Int.reduceLT, Int.reduceLE, Int.reduceEq, Int.reduceNeg, Int.reduceToNat, reduceIte, reduceCtorEq, h, e2, hs, ← hc, wrap_i64' (show -9223372036854775808 ≤ c ∧ c ≤ 9223372036854775807 by omega), c0, c1, c2, c3, c5, ht.1, ht.2.2.1, ht.2.2.2.1]
    done
theorem rcopy_ok (b : ByteArray) (a : Int) (t : ByteArray) : CallsV Try.prog 27 [.string b, .int .i64 a, .string t] [] (Ret0 (.tuple #[.string (copyP b a t).1, .int .i64 (copyP b a t).2])) := by
  obtain ⟨l, rfl⟩ := bs_of b
  obtain ⟨m, rfl⟩ := bs_of t
  refine callsO gM2_ok Try.mix Try.pl27 Try.func27 rfl Try.ntmps27 Try.results27 rfl (by first | rfl | assumption) (Nat.le_of_ble_eq_true rfl) (by kernel_rfl) ?_
  cases h : thereB (bs l).size a (bs m).size
  · have e : copyP (bs l) a (bs m) = (bs l, 1) := by unfold copyP; rw [if_neg (by rw [h]; decide)]
    rw [bs_size, bs_size] at h
    simp only [push_cast, Nat.reduceAdd, Nat.reduceSub, Nat.reduceMul, Nat.reduceLT, Nat.reduceLeDiff, Nat.reduceEqDiff, Nat.reduceMod, Nat.reduceDiv, Int.reduceAdd, Int.reduceSub, Int.reduceMul, Int.reduceLT, Int.reduceLE, Int.reduceEq, Int.reduceNeg, Int.reduceToNat, reduceIte, reduceCtorEq, h, e]
  · have e : copyP (bs l) a (bs m) = (bs (l.take a.toNat ++ m ++ l.drop (a.toNat + m.length)), 0) := by unfold copyP; rw [if_pos h, bs_data, bs_data, bs_size]
    rw [bs_size, bs_size] at h
    have ht := there_true h
    obtain ⟨c, hc⟩ : ∃ c, c = a + (m.length : Int) := ⟨_, rfl⟩
    have c0 : 0 ≤ c := by omega
    have c1 : c ≤ (l.length : Int) := by omega
    have c2 : c.toNat = a.toNat + m.length := by omega
    have e9 : List.take (l.length - (a.toNat + m.length)) (List.drop (a.toNat + m.length) l) = List.drop (a.toNat + m.length) l := List.take_of_length_le (by rw [List.length_drop]; exact Nat.le_refl _)
    have xl : (List.take a.toNat l).length = a.toNat := by rw [List.length_take]; omega
    have xm : (List.take a.toNat l ++ m).length = a.toNat + m.length := by rw [List.length_append, xl]
    have yl : (List.drop (a.toNat + m.length) l).length = l.length - (a.toNat + m.length) := List.length_drop
    have m1 : ¬ ((a.toNat : Int) + (m.length : Int)) > IntKind.i64.max := by show ¬ _ > (9223372036854775807 : Int); omega
    have m2 : ¬ ((a.toNat : Int) + (m.length : Int) + ((l.length - (a.toNat + m.length) : Nat) : Int)) > IntKind.i64.max := by show ¬ _ > (9223372036854775807 : Int); omega
    rw [List.append_assoc] at e
    simp only [push_cast, Nat.reduceAdd, Nat.reduceSub, Nat.reduceMul, Nat.reduceLT, Nat.reduceLeDiff, Nat.reduceEqDiff, Nat.reduceMod, Nat.reduceDiv, Int.reduceAdd, Int.reduceSub, Int.reduceMul, Int.reduceLT, Int.reduceLE, Int.reduceEq, Int.reduceNeg, Int.reduceToNat, reduceIte, reduceCtorEq, h, e, ← hc, wrap_i64' (show -9223372036854775808 ≤ c ∧ c ≤ 9223372036854775807 by omega), c0, c1, c2, e9, ht.1, ht.2.1, ht.2.2.1, ht.2.2.2.1, catB, xl, xm, yl, m1, m2, List.append_assoc]
    done
theorem rcopyG_ok (args : List Value) (v : Value) (h : copyG args = some v) : CallsV Try.prog 27 args [] (Ret0 v) := by
  unfold copyG at h
  split at h
  · cases h; exact rcopy_ok _ _ _
  · cases h
theorem rsliceG_ok (args : List Value) (v : Value) (h : sliceG args = some v) : CallsV Try.prog 28 args [] (Ret0 v) := by
  unfold sliceG at h
  split at h
  · cases h; exact rslice_ok _ _ _
  · cases h
theorem rloadG_ok (args : List Value) (v : Value) (h : loadG args = some v) : CallsV Try.prog 22 args [] (Ret0 v) := by
  unfold loadG at h
  split at h
  · cases h; exact rload_ok _ _
  · cases h
noncomputable def gM3 : Gam := (addG 22 loadG (addG 28 sliceG (addG 27 copyG gM2)))
attribute [push_cast] gM3
theorem gM3_ok : GamOk Try.prog gM3 := (addG_ok rloadG_ok (addG_ok rsliceG_ok (addG_ok rcopyG_ok gM2_ok)))
theorem rstore_ok (b : ByteArray) (a : Int) (w : W) : CallsV Try.prog 24 [.string b, .int .i64 a, w.v] [] (Ret0 (.tuple #[.string (copyP b a (bs (wbytes w))).1, .int .i64 (copyP b a (bs (wbytes w))).2])) := by
  refine callsO gM3_ok Try.mix Try.pl24 Try.func24 rfl Try.ntmps24 Try.results24 rfl (by first | rfl | assumption) (Nat.le_of_ble_eq_true rfl) (by kernel_rfl) ?_
  simp only [push_cast, Nat.reduceAdd, Nat.reduceSub, Nat.reduceMul, Nat.reduceLT, Nat.reduceLeDiff, Nat.reduceEqDiff, Nat.reduceMod, Nat.reduceDiv, Int.reduceAdd, Int.reduceSub, Int.reduceMul, Int.reduceLT, Int.reduceLE, Int.reduceEq, Int.reduceNeg, Int.reduceToNat, reduceIte, reduceCtorEq, bs_mk]
theorem rbyte_ok (b : ByteArray) (a : Int) (w : W) : CallsV Try.prog 26 [.string b, .int .i64 a, w.v] [] (Ret0 (.tuple #[.string (copyP b a (byteP w)).1, .int .i64 (copyP b a (byteP w)).2])) := by
  have hw := wbytes_len w
  have hl : List.take (32 - 31) (List.drop 31 (wbytes w)) = [UInt8.ofNat (digN w.num 0)] := by
    have hlt : 31 < (wbytes w).length := by rw [hw]; decide
    rw [List.drop_eq_getElem_cons hlt, show 32 - 31 = 1 from rfl, List.take_succ_cons, List.take_zero]
    have := wbytes_at w (j := 31) (by decide)
    rw [List.getElem?_eq_getElem hlt] at this
    rw [Option.some.inj this]
  have hl' : List.take 1 (List.drop 31 (wbytes w)) = [UInt8.ofNat (digN w.num 0)] := hl
  have hb : bs [UInt8.ofNat (digN w.num 0)] = byteP w := rfl
  refine callsO gM3_ok Try.mix Try.pl26 Try.func26 rfl Try.ntmps26 Try.results26 rfl (by first | rfl | assumption) (Nat.le_of_ble_eq_true rfl) (by kernel_rfl) ?_
  simp only [push_cast, Nat.reduceAdd, Nat.reduceSub, Nat.reduceMul, Nat.reduceLT, Nat.reduceLeDiff, Nat.reduceEqDiff, Nat.reduceMod, Nat.reduceDiv, Int.reduceAdd, Int.reduceSub, Int.reduceMul, Int.reduceLT, Int.reduceLE, Int.reduceEq, Int.reduceNeg, Int.reduceToNat, reduceIte, reduceCtorEq, bs_mk, hw, hl, hl', hb]
  done
theorem rneed_ok (a n : W) : CallsV Try.prog 19 [a.v, n.v] [] (Ret0 (.tuple #[.int .i64 (needI a n).1, .bool (needI a n).2])) := by
  refine callsO gM3_ok Try.mix (fun i => if i = 1 then [(0, 9)] else Try.pl19 i) Try.func19 rfl Try.ntmps19 Try.results19 rfl (by first | rfl | assumption) (Nat.le_of_ble_eq_true rfl) (by kernel_rfl) ?_
  simp only [push_cast, Nat.reduceAdd, Nat.reduceSub, Nat.reduceMul, Nat.reduceLT, Nat.reduceLeDiff, Nat.reduceEqDiff, Nat.reduceMod, Nat.reduceDiv, Int.reduceAdd, Int.reduceSub, Int.reduceMul, Int.reduceLT, Int.reduceLE, Int.reduceEq, Int.reduceNeg, Int.reduceToNat, reduceIte, reduceCtorEq]
  intro b2 b3 hb3
  refine regO gM3_ok ?_
  by_cases h0 : n = W.zero
  · have e1 : decide (n = W.zero) = true := decide_eq_true h0
    have e2 : needI a n = (0, true) := by rw [needI_eq, if_pos ((W.zero_iff n).1 h0)]
    simp only [push_cast, Nat.reduceAdd, Nat.reduceSub, Nat.reduceMul, Nat.reduceLT, Nat.reduceLeDiff, Nat.reduceEqDiff, Nat.reduceMod, Nat.reduceDiv, Int.reduceAdd, Int.reduceSub, Int.reduceMul, Int.reduceLT, Int.reduceLE, Int.reduceEq, Int.reduceNeg, Int.reduceToNat, reduceIte, reduceCtorEq, hb3, szero_agg, e1, e2]
  · have e1 : decide (n = W.zero) = false := decide_eq_false h0
    have hn0 : ¬ n.num = 0 := fun h => h0 ((W.zero_iff n).2 h)
    by_cases h1 : a.num + n.num ≤ 1048576
    · have ia : intW a = ((a.num : Int), true) := by rw [intW_eq, if_pos (by omega)]
      have in' : intW n = ((n.num : Int), true) := by rw [intW_eq, if_pos (by omega)]
      obtain ⟨q, hq⟩ : ∃ q, q = (a.num + n.num + 31) / 32 := ⟨_, rfl⟩
      have e2 : needI a n = ((q : Int), true) := by rw [needI_eq, if_neg hn0, if_pos h1, hq]
      obtain ⟨s, hs⟩ : ∃ s, s = a.num + n.num := ⟨_, rfl⟩
      have e4 : (a.num : Int) + (n.num : Int) = (s : Int) := by omega
      obtain ⟨t, ht⟩ : ∃ t, t = s + 31 := ⟨_, rfl⟩
      have e5 : (s : Int) + 31 = (t : Int) := by omega
      have e6 : (t : Int).tdiv 32 = (q : Int) := by rw [hq, ← hs, ← ht]; rfl
      have g1 : ¬ (1048576 : Int) < (a.num : Int) := by omega
      have g2 : ¬ (1048576 : Int) < (n.num : Int) := by omega
      have g3 : ¬ (1048576 : Int) < (s : Int) := by omega
      simp only [push_cast, Nat.reduceAdd, Nat.reduceSub, Nat.reduceMul, Nat.reduceLT, Nat.reduceLeDiff, Nat.reduceEqDiff, Nat.reduceMod, Nat.reduceDiv, Int.reduceAdd, Int.reduceSub, Int.reduceMul, Int.reduceLT, Int.reduceLE, Int.reduceEq, Int.reduceNeg, Int.reduceToNat, reduceIte, reduceCtorEq, hb3, szero_agg, e1, e2, ia, in', e4, wrap_i64' (show -9223372036854775808 ≤ (s : Int) ∧ (s : Int) ≤ 9223372036854775807 by omega), e5, wrap_i64' (show -9223372036854775808 ≤ (t : Int) ∧ (t : Int) ≤ 9223372036854775807 by omega), e6, wrap_i64' (show -9223372036854775808 ≤ (q : Int) ∧ (q : Int) ≤ 9223372036854775807 by omega), g1, g2, g3]
    · have e2 : needI a n = (0, false) := by rw [needI_eq, if_neg hn0, if_neg h1]
      by_cases i1 : a.num ≤ 4611686018427387903
      · have ia : intW a = ((a.num : Int), true) := by rw [intW_eq, if_pos i1]
        by_cases i2 : n.num ≤ 4611686018427387903
        · have in' : intW n = ((n.num : Int), true) := by rw [intW_eq, if_pos i2]
          by_cases g1 : (1048576 : Int) < (a.num : Int)
          · simp only [push_cast, Nat.reduceAdd, Nat.reduceSub, Nat.reduceMul, Nat.reduceLT, Nat.reduceLeDiff, Nat.reduceEqDiff, Nat.reduceMod, Nat.reduceDiv, Int.reduceAdd, Int.reduceSub, Int.reduceMul, Int.reduceLT, Int.reduceLE, Int.reduceEq, Int.reduceNeg, Int.reduceToNat, reduceIte, reduceCtorEq, hb3, szero_agg, e1, e2, ia, in', g1]
          · by_cases g2 : (1048576 : Int) < (n.num : Int)
            · simp only [push_cast, Nat.reduceAdd, Nat.reduceSub, Nat.reduceMul, Nat.reduceLT, Nat.reduceLeDiff, Nat.reduceEqDiff, Nat.reduceMod, Nat.reduceDiv, Int.reduceAdd, Int.reduceSub, Int.reduceMul, Int.reduceLT, Int.reduceLE, Int.reduceEq, Int.reduceNeg, Int.reduceToNat, reduceIte, reduceCtorEq, hb3, szero_agg, e1, e2, ia, in', g1, g2]
            · have g3 : (1048576 : Int) < (a.num : Int) + (n.num : Int) := by omega
              simp only [push_cast, Nat.reduceAdd, Nat.reduceSub, Nat.reduceMul, Nat.reduceLT, Nat.reduceLeDiff, Nat.reduceEqDiff, Nat.reduceMod, Nat.reduceDiv, Int.reduceAdd, Int.reduceSub, Int.reduceMul, Int.reduceLT, Int.reduceLE, Int.reduceEq, Int.reduceNeg, Int.reduceToNat, reduceIte, reduceCtorEq, hb3, szero_agg, e1, e2, ia, in', g1, g2, wrap_i64' (show -9223372036854775808 ≤ (a.num : Int) + (n.num : Int) ∧ (a.num : Int) + (n.num : Int) ≤ 9223372036854775807 by omega), g3]
        · have in' : intW n = (0, false) := by rw [intW_eq, if_neg i2]
          simp only [push_cast, Nat.reduceAdd, Nat.reduceSub, Nat.reduceMul, Nat.reduceLT, Nat.reduceLeDiff, Nat.reduceEqDiff, Nat.reduceMod, Nat.reduceDiv, Int.reduceAdd, Int.reduceSub, Int.reduceMul, Int.reduceLT, Int.reduceLE, Int.reduceEq, Int.reduceNeg, Int.reduceToNat, reduceIte, reduceCtorEq, hb3, szero_agg, e1, e2, ia, in']
      · have ia : intW a = (0, false) := by rw [intW_eq, if_neg i1]
        simp only [push_cast, Nat.reduceAdd, Nat.reduceSub, Nat.reduceMul, Nat.reduceLT, Nat.reduceLeDiff, Nat.reduceEqDiff, Nat.reduceMod, Nat.reduceDiv, Int.reduceAdd, Int.reduceSub, Int.reduceMul, Int.reduceLT, Int.reduceLE, Int.reduceEq, Int.reduceNeg, Int.reduceToNat, reduceIte, reduceCtorEq, hb3, szero_agg, e1, e2, ia]
theorem rgrow_ok (b : ByteArray) (w : Int) : CallsV Try.prog 20 [.string b, .int .i64 w] [] (Ret0 (.tuple #[.string (growP b w).1, .int .i64 (growP b w).2])) := by
  obtain ⟨l, rfl⟩ := bs_of b
  refine callsO gM3_ok Try.mix Try.pl20 Try.func20 rfl Try.ntmps20 Try.results20 rfl (by first | rfl | assumption) (Nat.le_of_ble_eq_true rfl) (by kernel_rfl) ?_
  cases h : mayB (bs l).size
  · have e : growP (bs l) w = (bs l, 1) := by unfold growP; rw [if_neg (by rw [h]; simp)]
    rw [bs_size] at h
    simp only [push_cast, Nat.reduceAdd, Nat.reduceSub, Nat.reduceMul, Nat.reduceLT, Nat.reduceLeDiff, Nat.reduceEqDiff, Nat.reduceMod, Nat.reduceDiv, Int.reduceAdd, Int.reduceSub, Int.reduceMul, Int.reduceLT, Int.reduceLE, Int.reduceEq, Int.reduceNeg, Int.reduceToNat, reduceIte, reduceCtorEq, h, e]
  · have hm : l.length ≤ 1048576 := by
      have := h
      rw [mayB_eq, decide_eq_true_eq, bs_size] at this
      exact this.1
    have h' := h
    rw [bs_size] at h'
    by_cases h1 : w < 0
    · have e : growP (bs l) w = (bs l, 1) := by unfold growP; rw [if_neg (fun hh => by have := hh.2; rw [withI_eq] at this; revert this; repeat' split <;> omega)]
      simp only [push_cast, Nat.reduceAdd, Nat.reduceSub, Nat.reduceMul, Nat.reduceLT, Nat.reduceLeDiff, Nat.reduceEqDiff, Nat.reduceMod, Nat.reduceDiv, Int.reduceAdd, Int.reduceSub, Int.reduceMul, Int.reduceLT, Int.reduceLE, Int.reduceEq, Int.reduceNeg, Int.reduceToNat, reduceIte, reduceCtorEq, h', h1, e]
    · by_cases h2 : 32768 < w
      · have e : growP (bs l) w = (bs l, 1) := by unfold growP; rw [if_neg (fun hh => by have := hh.2; rw [withI_eq] at this; revert this; repeat' split <;> omega)]
        simp only [push_cast, Nat.reduceAdd, Nat.reduceSub, Nat.reduceMul, Nat.reduceLT, Nat.reduceLeDiff, Nat.reduceEqDiff, Nat.reduceMod, Nat.reduceDiv, Int.reduceAdd, Int.reduceSub, Int.reduceMul, Int.reduceLT, Int.reduceLE, Int.reduceEq, Int.reduceNeg, Int.reduceToNat, reduceIte, reduceCtorEq, h', h1, h2, e]
      · have e : growP (bs l) w = (bs (l ++ zeros (32 * w - (l.length : Int)).toNat), 0) := by
          unfold growP
          rw [if_pos ⟨h, by rw [withI_eq]; repeat' split <;> omega⟩, bs_data, bs_size]
        by_cases h3 : 32 * w ≤ (l.length : Int)
        · have z0 : (32 * w - (l.length : Int)).toNat = 0 := by omega
          rw [z0, show zeros 0 = [] from rfl, List.append_nil] at e
          simp only [push_cast, Nat.reduceAdd, Nat.reduceSub, Nat.reduceMul, Nat.reduceLT, Nat.reduceLeDiff, Nat.reduceEqDiff, Nat.reduceMod, Nat.reduceDiv, Int.reduceAdd, Int.reduceSub, Int.reduceMul, Int.reduceLT, Int.reduceLE, Int.reduceEq, Int.reduceNeg, Int.reduceToNat, reduceIte, reduceCtorEq, h', h1, h2, wrap_i64' (show -9223372036854775808 ≤ 32 * w ∧ 32 * w ≤ 9223372036854775807 by omega), h3, e]
        · obtain ⟨z, hz⟩ : ∃ z : Nat, z = (32 * w - (l.length : Int)).toNat := ⟨_, rfl⟩
          have ez : 32 * w - (l.length : Int) = (z : Int) := by omega
          rw [← hz] at e
          have z1 : ¬ (z : Int) < 0 := by omega
          simp only [push_cast, Nat.reduceAdd, Nat.reduceSub, Nat.reduceMul, Nat.reduceLT, Nat.reduceLeDiff, Nat.reduceEqDiff, Nat.reduceMod, Nat.reduceDiv, Int.reduceAdd, Int.reduceSub, Int.reduceMul, Int.reduceLT, Int.reduceLE, Int.reduceEq, Int.reduceNeg, Int.reduceToNat, reduceIte, reduceCtorEq, h', h1, h2, wrap_i64' (show -9223372036854775808 ≤ 32 * w ∧ 32 * w ≤ 9223372036854775807 by omega), h3, ez, wrap_i64' (show -9223372036854775808 ≤ (z : Int) ∧ (z : Int) ≤ 9223372036854775807 by omega), z1, e]
          have z2 : ¬ z = 0 := by omega
          have tk : List.take z (byteV (zeros z)) = byteV (zeros z) := List.take_of_length_le (by rw [byteV_len, zeros_len]; exact Nat.le_refl _)
          have hbo := bytesOf_byteV (zeros z)
          have m1 : ¬ ((l.length : Int) + (z : Int)) > IntKind.i64.max := by show ¬ _ > (9223372036854775807 : Int); omega
          refine ⟨by unfold two47; omega, ?_⟩
          simp only [push_cast, Nat.reduceAdd, Nat.reduceSub, Nat.reduceMul, Nat.reduceLT, Nat.reduceLeDiff, Nat.reduceEqDiff, Nat.reduceMod, Nat.reduceDiv, Int.reduceAdd, Int.reduceSub, Int.reduceMul, Int.reduceLT, Int.reduceLE, Int.reduceEq, Int.reduceNeg, Int.reduceToNat, reduceIte, reduceCtorEq, z2, repV_zeros, byteV_len, zeros_len, tk, hbo, bs_mk, catB, m1]
          done
end Go.Proofs.Ytcglhlmajgpglaa
