/- Sk: the program's word.FromBytes. -/
import Derived.Test.YtndioekjgmbomaaDoorSj
set_option linter.unusedSimpArgs false
set_option linter.unusedVariables false
namespace Go.Ev
theorem beN_take (r : List UInt8) : ∀ {i : Nat} (h : i < r.length), beN (r.take (i + 1)) = beN (r.take i) + (r[i]).toNat * 256 ^ i := by
  induction r with
  | nil => intro i h; exact absurd h (Nat.not_lt_zero _)
  | cons x r ih =>
    intro i h
    cases i with
    | zero => simp [beN]
    | succ i =>
      simp only [List.take_succ_cons, beN, List.getElem_cons_succ]
      have e : ∀ a p : Nat, 256 * (a * p) = a * (p * 256) := fun a p => by rw [← Nat.mul_assoc, Nat.mul_comm 256 a, Nat.mul_assoc, Nat.mul_comm 256 p]
      rw [ih (by simpa using h), Nat.pow_succ, Nat.mul_add, e, Nat.add_assoc]
theorem beN_take_lt (r : List UInt8) {i : Nat} (h : i ≤ r.length) : beN (r.take i) < 256 ^ i := by
  have := beN_lt (r.take i)
  rw [List.length_take, Nat.min_eq_left h] at this
  exact this
theorem or_shl {x c r : Nat} (hr : r < 8) (hx : x < 256 ^ r) (hc : c < 256) : bitsI .or .u64 (x : Int) (shlI .u64 (c : Int) ((r : Int) * 8)) = ((x + c * 256 ^ r : Nat) : Int) ∧ x + c * 256 ^ r < 18446744073709551616 := by
  have e8 : (256 : Nat) ^ r = 2 ^ (8 * r) := by rw [Nat.pow_mul]
  have hle : (256 : Nat) ^ r ≤ 256 ^ 7 := Nat.pow_le_pow_right (by decide) (by omega)
  have hc2 : c * 256 ^ r ≤ 255 * 256 ^ r := Nat.mul_le_mul_right _ (by omega)
  have hlt : x + c * 256 ^ r < 256 * 256 ^ r := by omega
  have h64 : 256 * 256 ^ r ≤ 18446744073709551616 := by
    have := Nat.mul_le_mul_left 256 hle
    exact Nat.le_trans this (by decide)
  refine ⟨?_, by omega⟩
  have es : shlI .u64 (c : Int) ((r : Int) * 8) = ((c * 256 ^ r : Nat) : Int) := by
    unfold shlI
    rw [IntKind.wrap_u64, show ((r : Int) * 8).toNat = 8 * r by omega, show min (8 * r) IntKind.u64.bits = 8 * r by show min (8 * r) 64 = 8 * r; omega]
    rw [show (2 : Int) ^ (8 * r) = ((256 ^ r : Nat) : Int) by rw [e8, Int.natCast_pow]; rfl, ← Int.natCast_mul]
    omega
  rw [es]
  have h := bits_or_u64_nat x (c * 256 ^ r) (by omega) (by omega)
  have e : x ||| c * 256 ^ r = x + c * 256 ^ r := by
    rw [Nat.or_comm, Nat.mul_comm, e8, ← Nat.two_pow_add_eq_or_of_lt (by rw [← e8]; exact hx), Nat.add_comm]
  rw [e] at h
  exact h
/-- a word that is less than 2^(64 p + 8 r), and one more byte -/
theorem word_put {m c i p r : Nat} (hm : m < 256 ^ i) (hc : c < 256) (hr : r < 8) (hi : i = 8 * p + r) (hp : p < 4) :
    (W.of m).part p < 256 ^ r ∧ (W.of (m + c * 256 ^ i)).cells = List.set (W.of m).cells p (.int .u64 (((W.of m).part p + c * 256 ^ r : Nat) : Int)) := by
  have h7 : (256 : Nat) ^ r ≤ 72057594037927936 := Nat.le_trans (Nat.pow_le_pow_right (by decide) (by omega : r ≤ 7)) (by decide)
  have hP : c * 256 ^ r ≤ 255 * 256 ^ r := Nat.mul_le_mul_right _ (by omega)
  have ei : (256 : Nat) ^ i = 256 ^ (8 * p) * 256 ^ r := by rw [hi, Nat.pow_add]
  have ec : c * 256 ^ i = 256 ^ (8 * p) * (c * 256 ^ r) := by rw [ei, Nat.mul_left_comm]
  rw [ei] at hm
  rw [ec]
  generalize c * 256 ^ r = P at *
  generalize (256 : Nat) ^ r = T at *
  have hpw : 256 ^ (8 * p) * T ≤ 256 ^ (8 * 3) * 72057594037927936 := Nat.mul_le_mul (Nat.pow_le_pow_right (by decide) (by omega)) h7
  have hpw2 : 256 ^ (8 * 3) * 72057594037927936 = 452312848583266388373324160190187140051835877600158453279131187530910662656 := by decide
  have hn : (W.of m).num = m := by rw [W.num_of, Nat.mod_eq_of_lt (by omega)]
  generalize W.of m = w at *
  have ha := w.ha; have hb := w.hb; have hcc := w.hc; have hd := w.hd
  have hw : w.num = w.a + 18446744073709551616 * (w.b + 18446744073709551616 * (w.c + 18446744073709551616 * w.d)) := rfl
  obtain rfl | rfl | rfl | rfl : p = 0 ∨ p = 1 ∨ p = 2 ∨ p = 3 := by omega
  · rw [show (256 : Nat) ^ (8 * 0) = 1 by decide] at *
    have hx : w.a < T := by omega
    refine ⟨hx, ?_⟩
    rw [show W.of (m + 1 * P) = ⟨w.a + P, w.b, w.c, w.d, by omega, hb, hcc, hd⟩ from (W.eq_of (by rw [Nat.mod_eq_of_lt (by omega)]; show w.a + P + 18446744073709551616 * (w.b + 18446744073709551616 * (w.c + 18446744073709551616 * w.d)) = _; omega)).symm]
    rfl
  · rw [show (256 : Nat) ^ (8 * 1) = 18446744073709551616 by decide] at *
    have hx : w.b < T := by omega
    refine ⟨hx, ?_⟩
    rw [show W.of (m + 18446744073709551616 * P) = ⟨w.a, w.b + P, w.c, w.d, ha, by omega, hcc, hd⟩ from (W.eq_of (by rw [Nat.mod_eq_of_lt (by omega)]; show w.a + 18446744073709551616 * (w.b + P + 18446744073709551616 * (w.c + 18446744073709551616 * w.d)) = _; omega)).symm]
    rfl
  · rw [show (256 : Nat) ^ (8 * 2) = 340282366920938463463374607431768211456 by decide] at *
    have hx : w.c < T := by omega
    refine ⟨hx, ?_⟩
    rw [show W.of (m + 340282366920938463463374607431768211456 * P) = ⟨w.a, w.b, w.c + P, w.d, ha, hb, by omega, hd⟩ from (W.eq_of (by rw [Nat.mod_eq_of_lt (by omega)]; show w.a + 18446744073709551616 * (w.b + 18446744073709551616 * (w.c + P + 18446744073709551616 * w.d)) = _; omega)).symm]
    rfl
  · rw [show (256 : Nat) ^ (8 * 3) = 6277101735386680763835789423207666416102355444464034512896 by decide] at *
    have hx : w.d < T := by omega
    refine ⟨hx, ?_⟩
    rw [show W.of (m + 6277101735386680763835789423207666416102355444464034512896 * P) = ⟨w.a, w.b, w.c, w.d + P, ha, hb, hcc, by omega⟩ from (W.eq_of (by rw [Nat.mod_eq_of_lt (by omega)]; show w.a + 18446744073709551616 * (w.b + 18446744073709551616 * (w.c + 18446744073709551616 * (w.d + P))) = _; omega)).symm]
    rfl
end Go.Ev
namespace Go.Proofs.YtndioekjgmbomaaDoor
open Go Go.Ev Go.Proofs
set_option maxRecDepth 100000
set_option maxHeartbeats 4000000
theorem wordFromBytes (b : ByteArray) (hlb : b.size < 1152921504606846976) : CallsV Tryd.prog 30 [.string b] [] (Ret0 (frombW b.data.toList).v) := by
  obtain ⟨l, rfl⟩ := bs_of b
  rw [bs_size] at hlb
  rw [bs_data]
  obtain ⟨R, hR⟩ : ∃ R, R = frombW l := ⟨_, rfl⟩
  rw [← hR]
  obtain ⟨rv, hrv⟩ : ∃ rv, rv = l.reverse.take 32 := ⟨_, rfl⟩
  have hrl : rv.length = min 32 l.length := by rw [hrv, List.length_take, List.length_reverse]
  have hRe : R = W.of (beN rv) := by rw [hR, frombW_eq, hrv]
  refine callsO (noG_ok _) Tryd.mix Tryd.pl30 Tryd.func30 rfl Tryd.ntmps30 Tryd.results30 rfl (by first | rfl | assumption) (Nat.le_of_ble_eq_true rfl) (by kernel_rfl) ?_
  simp only [push_cast, Nat.reduceAdd, Nat.reduceSub, Nat.reduceMul, Nat.reduceLT, Nat.reduceLeDiff, Nat.reduceEqDiff, Nat.reduceMod, Nat.reduceDiv, Int.reduceAdd, Int.reduceSub, Int.reduceMul, Int.reduceLT, Int.reduceLE, Int.reduceEq, Int.reduceNeg, Int.reduceToNat, reduceIte, reduceCtorEq]
  intro b2 b3 c3 hb3 hc3
  refine (last_ok b3 l.length c3 hc3 (by omega)).pure trivial ?_
  simp only [push_cast, Nat.reduceAdd, Nat.reduceSub, Nat.reduceMul, Nat.reduceLT, Nat.reduceLeDiff, Nat.reduceEqDiff, Nat.reduceMod, Nat.reduceDiv, Int.reduceAdd, Int.reduceSub, Int.reduceMul, Int.reduceLT, Int.reduceLE, Int.reduceEq, Int.reduceNeg, Int.reduceToNat, reduceIte, reduceCtorEq, hb3]
  obtain ⟨k, hk⟩ : ∃ k, k = l.length - 32 := ⟨_, rfl⟩
  obtain ⟨q, hq⟩ : ∃ q, q = l.length - k := ⟨_, rfl⟩
  have hdl : (l.drop k).length = q := by rw [List.length_drop, hq]
  have hrev : (l.drop k).reverse = rv := by
    rw [hrv, List.reverse_drop]
    rcases Nat.le_total l.length 32 with h | h
    · rw [List.take_of_length_le (by rw [List.length_reverse]; omega), List.take_of_length_le (by rw [List.length_reverse]; exact h)]
    · congr 1; omega
  have hbd : List.take q (List.drop k (byteV l)) = byteV (l.drop k) := by
    have e : List.drop k (byteV l) = byteV (l.drop k) := by unfold byteV; rw [List.map_drop]
    rw [e]; exact List.take_of_length_le (by rw [byteV_len, hdl]; exact Nat.le_refl _)
  have hkq : k + q ≤ l.length := by omega
  have hqr : rv.length = q := by omega
  rw [← hk, ← hq]
  refine (reversed_ok b3 k q (c3 - k) (l.drop k) hdl (by omega)).use ?_ ?_
  · simp only [push_cast, Nat.reduceAdd, Nat.reduceSub, Nat.reduceMul, Nat.reduceLT, Nat.reduceLeDiff, Nat.reduceEqDiff, Nat.reduceMod, Nat.reduceDiv, Int.reduceAdd, Int.reduceSub, Int.reduceMul, Int.reduceLT, Int.reduceLE, Int.reduceEq, Int.reduceNeg, Int.reduceToNat, reduceIte, reduceCtorEq, hb3, byteV_len, hdl, hbd, hkq]
  rw [hrev]
  rintro v N ⟨b5, c5, rfl, hc5, rfl⟩
  refine ⟨⟨trivial, trivial⟩, rfl, fun hf => ?_⟩
  simp only [push_cast, Nat.reduceAdd, Nat.reduceSub, Nat.reduceMul, Nat.reduceLT, Nat.reduceLeDiff, Nat.reduceEqDiff, Nat.reduceMod, Nat.reduceDiv, Int.reduceAdd, Int.reduceSub, Int.reduceMul, Int.reduceLT, Int.reduceLE, Int.reduceEq, Int.reduceNeg, Int.reduceToNat, reduceIte, reduceCtorEq] at hf
  simp only [push_cast, Nat.reduceAdd, Nat.reduceSub, Nat.reduceMul, Nat.reduceLT, Nat.reduceLeDiff, Nat.reduceEqDiff, Nat.reduceMod, Nat.reduceDiv, Int.reduceAdd, Int.reduceSub, Int.reduceMul, Int.reduceLT, Int.reduceLE, Int.reduceEq, Int.reduceNeg, Int.reduceToNat, reduceIte, reduceCtorEq, hb3, hf]
  refine loopO (noG_ok _) (pl := Tryd.pl30) Tryd.mix (X := Nat)
    (fun i => ([(2, .pointer (some ⟨b2, 0, none⟩)), (8, .slice (some ⟨b5, 0, none⟩) q c5), (9, .int .i64 q), (10, .int .i64 i)],
      [⟨b5, 0, .vec 5 1 c5, byteV rv⟩, ⟨b2, 0, .cel 24, [.int .u64 ((W.of (beN (rv.take i))).a : Nat), .int .u64 ((W.of (beN (rv.take i))).b : Nat), .int .u64 ((W.of (beN (rv.take i))).c : Nat), .int .u64 ((W.of (beN (rv.take i))).d : Nat)]⟩]))
    (fun i => i ≤ q) (fun i => q - i) 0 ?_ ?_ (by kernel_rfl) ?_
  · exact Nat.zero_le _
  · have h0 : W.of (beN (rv.take 0)) = W.zero := by
      refine W.num_inj ?_
      rw [W.num_of]; rfl
    rw [h0]
    simp only [push_cast, Nat.reduceAdd, Nat.reduceSub, Nat.reduceMul, Nat.reduceLT, Nat.reduceLeDiff, Nat.reduceEqDiff, Nat.reduceMod, Nat.reduceDiv, Int.reduceAdd, Int.reduceSub, Int.reduceMul, Int.reduceLT, Int.reduceLE, Int.reduceEq, Int.reduceNeg, Int.reduceToNat, reduceIte, reduceCtorEq, hb3, hf]
    rfl
  · intro i hi
    dsimp only at hi ⊢
    rcases Nat.lt_or_ge i q with hlt | hge
    · have i1 : (i : Int) < (q : Int) := by omega
      have i2 : i + 1 ≤ q := by omega
      have hil : i < rv.length := by omega
      have hat : List.take 1 (List.drop i (byteV rv)) = [.int .u8 ((rv[i]).toNat : Nat)] := by
        unfold byteV
        rw [← List.map_drop, ← List.map_take, List.drop_eq_getElem_cons hil, List.take_succ_cons, List.take_zero]; rfl
      have hx : (rv[i]).toNat < 256 := (rv[i]).toNat_lt
      have hbt := beN_take rv hil
      have hml := beN_take_lt rv (i := i) (by omega)
      obtain ⟨p, hp⟩ : ∃ p, p = i / 8 := ⟨_, rfl⟩
      obtain ⟨r, hr⟩ : ∃ r, r = i % 8 := ⟨_, rfl⟩
      have ep : (i : Int).tdiv 8 = (p : Int) := by rw [hp]; rfl
      have er : (i : Int).tmod 8 = (r : Int) := by rw [hr]; rfl
      have rn : ¬ (r : Int) * 8 < 0 := by omega
      obtain ⟨c, hc⟩ : ∃ c, c = (rv[i]).toNat := ⟨_, rfl⟩
      rw [← hc] at hat hx hbt
      obtain ⟨g1, g2⟩ := word_put (m := beN (rv.take i)) (c := c) (i := i) (p := p) (r := r) hml hx (by omega) (by omega) (by omega)
      rw [← hbt] at g2
      obtain ⟨g3, g4⟩ := or_shl (x := (W.of (beN (rv.take i))).part p) (c := c) (r := r) (by omega) g1 hx
      generalize W.of (beN (rv.take i)) = w at *
      obtain ⟨w', hw'⟩ : ∃ w', w' = W.of (beN (rv.take (i + 1))) := ⟨_, rfl⟩
      rw [← hw'] at g2
      generalize c * 256 ^ r = P at *
      obtain rfl | rfl | rfl | rfl : p = 0 ∨ p = 1 ∨ p = 2 ∨ p = 3 := by omega
      · replace g3 : bitsI .or .u64 (w.a : Int) (shlI .u64 (c : Int) ((r : Int) * 8)) = ((w.a + P : Nat) : Int) := g3
        simp only [push_cast, Nat.reduceAdd, Nat.reduceSub, Nat.reduceMul, Nat.reduceLT, Nat.reduceLeDiff, Nat.reduceEqDiff, Nat.reduceMod, Nat.reduceDiv, Int.reduceAdd, Int.reduceSub, Int.reduceMul, Int.reduceLT, Int.reduceLE, Int.reduceEq, Int.reduceNeg, Int.reduceToNat, reduceIte, reduceCtorEq, hb3, hf, i1, i2, byteV_len, hqr, hat, ep, er, rn, wrap_u64' (n := (c : Int)) (by omega), wrap_i64' (show -9223372036854775808 ≤ (r : Int) * 8 ∧ (r : Int) * 8 ≤ 9223372036854775807 by omega), g3, wrap_i64' (show -9223372036854775808 ≤ (i : Int) + 1 ∧ (i : Int) + 1 ≤ 9223372036854775807 by omega)]
        refine ⟨i + 1, i2, by omega, rfl, ?_⟩
        rw [← hw']
        show Ent.mk b2 0 (.cel 24) (List.set w.cells 0 (.int .u64 ((w.part 0 + P : Nat) : Int))) = Ent.mk b2 0 (.cel 24) w'.cells
        rw [g2]
      · replace g3 : bitsI .or .u64 (w.b : Int) (shlI .u64 (c : Int) ((r : Int) * 8)) = ((w.b + P : Nat) : Int) := g3
        simp only [push_cast, Nat.reduceAdd, Nat.reduceSub, Nat.reduceMul, Nat.reduceLT, Nat.reduceLeDiff, Nat.reduceEqDiff, Nat.reduceMod, Nat.reduceDiv, Int.reduceAdd, Int.reduceSub, Int.reduceMul, Int.reduceLT, Int.reduceLE, Int.reduceEq, Int.reduceNeg, Int.reduceToNat, reduceIte, reduceCtorEq, hb3, hf, i1, i2, byteV_len, hqr, hat, ep, er, rn, wrap_u64' (n := (c : Int)) (by omega), wrap_i64' (show -9223372036854775808 ≤ (r : Int) * 8 ∧ (r : Int) * 8 ≤ 9223372036854775807 by omega), g3, wrap_i64' (show -9223372036854775808 ≤ (i : Int) + 1 ∧ (i : Int) + 1 ≤ 9223372036854775807 by omega)]
        refine ⟨i + 1, i2, by omega, rfl, ?_⟩
        rw [← hw']
        show Ent.mk b2 0 (.cel 24) (List.set w.cells 1 (.int .u64 ((w.part 1 + P : Nat) : Int))) = Ent.mk b2 0 (.cel 24) w'.cells
        rw [g2]
      · replace g3 : bitsI .or .u64 (w.c : Int) (shlI .u64 (c : Int) ((r : Int) * 8)) = ((w.c + P : Nat) : Int) := g3
        simp only [push_cast, Nat.reduceAdd, Nat.reduceSub, Nat.reduceMul, Nat.reduceLT, Nat.reduceLeDiff, Nat.reduceEqDiff, Nat.reduceMod, Nat.reduceDiv, Int.reduceAdd, Int.reduceSub, Int.reduceMul, Int.reduceLT, Int.reduceLE, Int.reduceEq, Int.reduceNeg, Int.reduceToNat, reduceIte, reduceCtorEq, hb3, hf, i1, i2, byteV_len, hqr, hat, ep, er, rn, wrap_u64' (n := (c : Int)) (by omega), wrap_i64' (show -9223372036854775808 ≤ (r : Int) * 8 ∧ (r : Int) * 8 ≤ 9223372036854775807 by omega), g3, wrap_i64' (show -9223372036854775808 ≤ (i : Int) + 1 ∧ (i : Int) + 1 ≤ 9223372036854775807 by omega)]
        refine ⟨i + 1, i2, by omega, rfl, ?_⟩
        rw [← hw']
        show Ent.mk b2 0 (.cel 24) (List.set w.cells 2 (.int .u64 ((w.part 2 + P : Nat) : Int))) = Ent.mk b2 0 (.cel 24) w'.cells
        rw [g2]
      · replace g3 : bitsI .or .u64 (w.d : Int) (shlI .u64 (c : Int) ((r : Int) * 8)) = ((w.d + P : Nat) : Int) := g3
        simp only [push_cast, Nat.reduceAdd, Nat.reduceSub, Nat.reduceMul, Nat.reduceLT, Nat.reduceLeDiff, Nat.reduceEqDiff, Nat.reduceMod, Nat.reduceDiv, Int.reduceAdd, Int.reduceSub, Int.reduceMul, Int.reduceLT, Int.reduceLE, Int.reduceEq, Int.reduceNeg, Int.reduceToNat, reduceIte, reduceCtorEq, hb3, hf, i1, i2, byteV_len, hqr, hat, ep, er, rn, wrap_u64' (n := (c : Int)) (by omega), wrap_i64' (show -9223372036854775808 ≤ (r : Int) * 8 ∧ (r : Int) * 8 ≤ 9223372036854775807 by omega), g3, wrap_i64' (show -9223372036854775808 ≤ (i : Int) + 1 ∧ (i : Int) + 1 ≤ 9223372036854775807 by omega)]
        refine ⟨i + 1, i2, by omega, rfl, ?_⟩
        rw [← hw']
        show Ent.mk b2 0 (.cel 24) (List.set w.cells 3 (.int .u64 ((w.part 3 + P : Nat) : Int))) = Ent.mk b2 0 (.cel 24) w'.cells
        rw [g2]
    · obtain rfl : i = q := by omega
      have hRw : W.of (beN (rv.take i)) = R := by rw [hRe, List.take_of_length_le (by omega)]
      rw [hRw]
      simp only [push_cast, Nat.reduceAdd, Nat.reduceSub, Nat.reduceMul, Nat.reduceLT, Nat.reduceLeDiff, Nat.reduceEqDiff, Nat.reduceMod, Nat.reduceDiv, Int.reduceAdd, Int.reduceSub, Int.reduceMul, Int.reduceLT, Int.reduceLE, Int.reduceEq, Int.reduceNeg, Int.reduceToNat, reduceIte, reduceCtorEq, hb3, hf, Nat.lt_irrefl]
      rfl
end Go.Proofs.YtndioekjgmbomaaDoor
