/- Texts of this claim, merged by program: Sk Sl Oe Of Og EvN. -/
import Derived.Test.YtolmipnaheifcaaGreatDoorZfAi
import Derived.Test.YtolmipnaheifcaaGreatDoorZfAg
import Derived.Test.YtolmipnaheifcaaGreatDoorZfAf
set_option linter.unusedSimpArgs false
set_option linter.unusedVariables false
namespace Go.Ev
theorem beN_take (r : List UInt8) : ∀ {i : Nat} (h : i < r.length), beN (r.take (i + 1)) = beN (r.take i) + (r[i]).toNat * 256 ^ i := by
  induction r with
  | nil => intro i h; exact absurd h (Nat.not_lt_zero _)
  | cons x r ih =>
    intro i h
    cases i with
    | zero => simp [beN]
    | succ i =>
      simp only [List.take_succ_cons, beN, List.getElem_cons_succ]
      have e : ∀ a p : Nat, 256 * (a * p) = a * (p * 256) := fun a p => by rw [← Nat.mul_assoc, Nat.mul_comm 256 a, Nat.mul_assoc, Nat.mul_comm 256 p]
      rw [ih (by simpa using h), Nat.pow_succ, Nat.mul_add, e, Nat.add_assoc]
theorem beN_take_lt (r : List UInt8) {i : Nat} (h : i ≤ r.length) : beN (r.take i) < 256 ^ i := by
  have := beN_lt (r.take i)
  rw [List.length_take, Nat.min_eq_left h] at this
  exact this
theorem or_shl {x c r : Nat} (hr : r < 8) (hx : x < 256 ^ r) (hc : c < 256) : bitsI .or .u64 (x : Int) (shlI .u64 (c : Int) ((r : Int) * 8)) = ((x + c * 256 ^ r : Nat) : Int) ∧ x + c * 256 ^ r < 18446744073709551616 := by
  have e8 : (256 : Nat) ^ r = 2 ^ (8 * r) := by rw [Nat.pow_mul]
  have hle : (256 : Nat) ^ r ≤ 256 ^ 7 := Nat.pow_le_pow_right (by decide) (by omega)
  have hc2 : c * 256 ^ r ≤ 255 * 256 ^ r := Nat.mul_le_mul_right _ (by omega)
  have hlt : x + c * 256 ^ r < 256 * 256 ^ r := by omega
  have h64 : 256 * 256 ^ r ≤ 18446744073709551616 := by
    have := Nat.mul_le_mul_left 256 hle
    exact Nat.le_trans this (by decide)
  refine ⟨?_, by omega⟩
  have es : shlI .u64 (c : Int) ((r : Int) * 8) = ((c * 256 ^ r : Nat) : Int) := by
    unfold shlI
    rw [IntKind.wrap_u64, show ((r : Int) * 8).toNat = 8 * r by omega, show min (8 * r) IntKind.u64.bits = 8 * r by show min (8 * r) 64 = 8 * r; omega]
    rw [show (2 : Int) ^ (8 * r) = ((256 ^ r : Nat) : Int) by rw [e8, Int.natCast_pow]; rfl, ← Int.natCast_mul]
    omega
  rw [es]
  have h := bits_or_u64_nat x (c * 256 ^ r) (by omega) (by omega)
  have e : x ||| c * 256 ^ r = x + c * 256 ^ r := by
    rw [Nat.or_comm, Nat.mul_comm, e8, ← Nat.two_pow_add_eq_or_of_lt (by rw [← e8]; exact hx), Nat.add_comm]
  rw [e] at h
  exact h
theorem word_put {m c i p r : Nat} (hm : m < 256 ^ i) (hc : c < 256) (hr : r < 8) (hi : i = 8 * p + r) (hp : p < 4) :
    (W.of m).part p < 256 ^ r ∧ (W.of (m + c * 256 ^ i)).cells = List.set (W.of m).cells p (.int .u64 (((W.of m).part p + c * 256 ^ r : Nat) : Int)) := by
  have h7 : (256 : Nat) ^ r ≤ 72057594037927936 := Nat.le_trans (Nat.pow_le_pow_right (by decide) (by omega : r ≤ 7)) (by decide)
  have hP : c * 256 ^ r ≤ 255 * 256 ^ r := Nat.mul_le_mul_right _ (by omega)
  have ei : (256 : Nat) ^ i = 256 ^ (8 * p) * 256 ^ r := by rw [hi, Nat.pow_add]
  have ec : c * 256 ^ i = 256 ^ (8 * p) * (c * 256 ^ r) := by rw [ei, Nat.mul_left_comm]
  rw [ei] at hm
  rw [ec]
  generalize c * 256 ^ r = P at *
  generalize (256 : Nat) ^ r = T at *
  have hpw : 256 ^ (8 * p) * T ≤ 256 ^ (8 * 3) * 72057594037927936 := Nat.mul_le_mul (Nat.pow_le_pow_right (by decide) (by omega)) h7
  have hpw2 : 256 ^ (8 * 3) * 72057594037927936 = 452312848583266388373324160190187140051835877600158453279131187530910662656 := by decide
  have hn : (W.of m).num = m := by rw [W.num_of, Nat.mod_eq_of_lt (by omega)]
  generalize W.of m = w at *
  have ha := w.ha; have hb := w.hb; have hcc := w.hc; have hd := w.hd
  have hw : w.num = w.a + 18446744073709551616 * (w.b + 18446744073709551616 * (w.c + 18446744073709551616 * w.d)) := rfl
  obtain rfl | rfl | rfl | rfl : p = 0 ∨ p = 1 ∨ p = 2 ∨ p = 3 := by omega
  · rw [show (256 : Nat) ^ (8 * 0) = 1 by decide] at *
    have hx : w.a < T := by omega
    refine ⟨hx, ?_⟩
    rw [show W.of (m + 1 * P) = ⟨w.a + P, w.b, w.c, w.d, by omega, hb, hcc, hd⟩ from (W.eq_of (by rw [Nat.mod_eq_of_lt (by omega)]; show w.a + P + 18446744073709551616 * (w.b + 18446744073709551616 * (w.c + 18446744073709551616 * w.d)) = _; omega)).symm]
    rfl
  · rw [show (256 : Nat) ^ (8 * 1) = 18446744073709551616 by decide] at *
    have hx : w.b < T := by omega
    refine ⟨hx, ?_⟩
    rw [show W.of (m + 18446744073709551616 * P) = ⟨w.a, w.b + P, w.c, w.d, ha, by omega, hcc, hd⟩ from (W.eq_of (by rw [Nat.mod_eq_of_lt (by omega)]; show w.a + 18446744073709551616 * (w.b + P + 18446744073709551616 * (w.c + 18446744073709551616 * w.d)) = _; omega)).symm]
    rfl
  · rw [show (256 : Nat) ^ (8 * 2) = 340282366920938463463374607431768211456 by decide] at *
    have hx : w.c < T := by omega
    refine ⟨hx, ?_⟩
    rw [show W.of (m + 340282366920938463463374607431768211456 * P) = ⟨w.a, w.b, w.c + P, w.d, ha, hb, by omega, hd⟩ from (W.eq_of (by rw [Nat.mod_eq_of_lt (by omega)]; show w.a + 18446744073709551616 * (w.b + 18446744073709551616 * (w.c + P + 18446744073709551616 * w.d)) = _; omega)).symm]
    rfl
  · rw [show (256 : Nat) ^ (8 * 3) = 6277101735386680763835789423207666416102355444464034512896 by decide] at *
    have hx : w.d < T := by omega
    refine ⟨hx, ?_⟩
    rw [show W.of (m + 6277101735386680763835789423207666416102355444464034512896 * P) = ⟨w.a, w.b, w.c, w.d + P, ha, hb, hcc, by omega⟩ from (W.eq_of (by rw [Nat.mod_eq_of_lt (by omega)]; show w.a + 18446744073709551616 * (w.b + 18446744073709551616 * (w.c + 18446744073709551616 * (w.d + P))) = _; omega)).symm]
    rfl
end Go.Ev
namespace Go.Proofs.YtolmipnaheifcaaGreatDoor
open Go Go.Ev Go.Proofs
set_option maxRecDepth 100000
set_option maxHeartbeats 4000000
theorem wordFromBytes (b : ByteArray) (hlb : b.size < 1152921504606846976) : CallsV Tryz.prog 29 [.string b] [] (Ret0 (frombW b.data.toList).v) := by
  obtain ⟨l, rfl⟩ := bs_of b
  rw [bs_size] at hlb
  rw [bs_data]
  obtain ⟨R, hR⟩ : ∃ R, R = frombW l := ⟨_, rfl⟩
  rw [← hR]
  obtain ⟨rv, hrv⟩ : ∃ rv, rv = l.reverse.take 32 := ⟨_, rfl⟩
  have hrl : rv.length = min 32 l.length := by rw [hrv, List.length_take, List.length_reverse]
  have hRe : R = W.of (beN rv) := by rw [hR, frombW_eq, hrv]
  refine callsO (noG_ok _) Tryz.mix Tryz.pl29 Tryz.func29 rfl Tryz.ntmps29 Tryz.results29 rfl (by first | rfl | assumption) (Nat.le_of_ble_eq_true rfl) (by kernel_rfl) ?_
  simp only [push_cast, seval, reduceCtorEq]
  intro b2 b3 c3 hb3 hc3
  refine (last_ok b3 l.length c3 hc3 (by omega)).pure trivial ?_
  simp only [push_cast, seval, reduceCtorEq, hb3]
  obtain ⟨k, hk⟩ : ∃ k, k = l.length - 32 := ⟨_, rfl⟩
  obtain ⟨q, hq⟩ : ∃ q, q = l.length - k := ⟨_, rfl⟩
  have hdl : (l.drop k).length = q := by rw [List.length_drop, hq]
  have hrev : (l.drop k).reverse = rv := by
    rw [hrv, List.reverse_drop]
    rcases Nat.le_total l.length 32 with h | h
    · rw [List.take_of_length_le (by rw [List.length_reverse]; omega), List.take_of_length_le (by rw [List.length_reverse]; exact h)]
    · congr 1; omega
  have hbd : List.take q (List.drop k (byteV l)) = byteV (l.drop k) := by
    have e : List.drop k (byteV l) = byteV (l.drop k) := by unfold byteV; rw [List.map_drop]
    rw [e]; exact List.take_of_length_le (by rw [byteV_len, hdl]; exact Nat.le_refl _)
  have hkq : k + q ≤ l.length := by omega
  have hqr : rv.length = q := by omega
  rw [← hk, ← hq]
  refine (reversed_ok b3 k q (c3 - k) (l.drop k) hdl (by omega)).use ?_ ?_
  · simp only [push_cast, seval, reduceCtorEq, hb3, byteV_len, hdl, hbd, hkq]
  rw [hrev]
  rintro v N ⟨b5, c5, rfl, hc5, rfl⟩
  refine ⟨⟨trivial, trivial⟩, rfl, fun hf => ?_⟩
  simp only [push_cast, seval, reduceCtorEq] at hf
  simp only [push_cast, seval, reduceCtorEq, hb3, hf]
  refine loopO (noG_ok _) (pl := Tryz.pl29) Tryz.mix (X := Nat)
    (fun i => ([(2, .pointer (some ⟨b2, 0, none⟩)), (8, .slice (some ⟨b5, 0, none⟩) q c5), (9, .int .i64 q), (10, .int .i64 i)],
      [⟨b5, 0, .vec 5 1 c5, byteV rv⟩, ⟨b2, 0, .cel 25, [.int .u64 ((W.of (beN (rv.take i))).a : Nat), .int .u64 ((W.of (beN (rv.take i))).b : Nat), .int .u64 ((W.of (beN (rv.take i))).c : Nat), .int .u64 ((W.of (beN (rv.take i))).d : Nat)]⟩]))
    (fun i => i ≤ q) (fun i => q - i) 0 ?_ ?_ (by kernel_rfl) ?_
  · exact Nat.zero_le _
  · have h0 : W.of (beN (rv.take 0)) = W.zero := by
      refine W.num_inj ?_
      rw [W.num_of]; rfl
    rw [h0]
    simp only [push_cast, seval, reduceCtorEq, hb3, hf]
    rfl
  · intro i hi
    dsimp only at hi ⊢
    rcases Nat.lt_or_ge i q with hlt | hge
    · have i1 : (i : Int) < (q : Int) := by omega
      have i2 : i + 1 ≤ q := by omega
      have hil : i < rv.length := by omega
      have hat : List.take 1 (List.drop i (byteV rv)) = [.int .u8 ((rv[i]).toNat : Nat)] := by
        unfold byteV
        rw [← List.map_drop, ← List.map_take, List.drop_eq_getElem_cons hil, List.take_succ_cons, List.take_zero]; rfl
      have hx : (rv[i]).toNat < 256 := (rv[i]).toNat_lt
      have hbt := beN_take rv hil
      have hml := beN_take_lt rv (i := i) (by omega)
      obtain ⟨p, hp⟩ : ∃ p, p = i / 8 := ⟨_, rfl⟩
      obtain ⟨r, hr⟩ : ∃ r, r = i % 8 := ⟨_, rfl⟩
      have ep : (i : Int).tdiv 8 = (p : Int) := by rw [hp]; rfl
      have er : (i : Int).tmod 8 = (r : Int) := by rw [hr]; rfl
      have rn : ¬ (r : Int) * 8 < 0 := by omega
      obtain ⟨c, hc⟩ : ∃ c, c = (rv[i]).toNat := ⟨_, rfl⟩
      rw [← hc] at hat hx hbt
      obtain ⟨g1, g2⟩ := word_put (m := beN (rv.take i)) (c := c) (i := i) (p := p) (r := r) hml hx (by omega) (by omega) (by omega)
      rw [← hbt] at g2
      obtain ⟨g3, g4⟩ := or_shl (x := (W.of (beN (rv.take i))).part p) (c := c) (r := r) (by omega) g1 hx
      generalize W.of (beN (rv.take i)) = w at *
      obtain ⟨w', hw'⟩ : ∃ w', w' = W.of (beN (rv.take (i + 1))) := ⟨_, rfl⟩
      rw [← hw'] at g2
      generalize c * 256 ^ r = P at *
      obtain rfl | rfl | rfl | rfl : p = 0 ∨ p = 1 ∨ p = 2 ∨ p = 3 := by omega
      · replace g3 : bitsI .or .u64 (w.a : Int) (shlI .u64 (c : Int) ((r : Int) * 8)) = ((w.a + P : Nat) : Int) := g3
        simp only [push_cast, seval, reduceCtorEq, hb3, hf, i1, i2, byteV_len, hqr, hat, ep, er, rn, wrap_u64' (n := (c : Int)) (by omega), wrap_i64' (show -9223372036854775808 ≤ (r : Int) * 8 ∧ (r : Int) * 8 ≤ 9223372036854775807 by omega), g3, wrap_i64' (show -9223372036854775808 ≤ (i : Int) + 1 ∧ (i : Int) + 1 ≤ 9223372036854775807 by omega)]
        refine ⟨i + 1, i2, by omega, rfl, ?_⟩
        rw [← hw']
        show Ent.mk b2 0 (.cel 25) (List.set w.cells 0 (.int .u64 ((w.part 0 + P : Nat) : Int))) = Ent.mk b2 0 (.cel 25) w'.cells
        rw [g2]
      · replace g3 : bitsI .or .u64 (w.b : Int) (shlI .u64 (c : Int) ((r : Int) * 8)) = ((w.b + P : Nat) : Int) := g3
        simp only [push_cast, seval, reduceCtorEq, hb3, hf, i1, i2, byteV_len, hqr, hat, ep, er, rn, wrap_u64' (n := (c : Int)) (by omega), wrap_i64' (show -9223372036854775808 ≤ (r : Int) * 8 ∧ (r : Int) * 8 ≤ 9223372036854775807 by omega), g3, wrap_i64' (show -9223372036854775808 ≤ (i : Int) + 1 ∧ (i : Int) + 1 ≤ 9223372036854775807 by omega)]
        refine ⟨i + 1, i2, by omega, rfl, ?_⟩
        rw [← hw']
        show Ent.mk b2 0 (.cel 25) (List.set w.cells 1 (.int .u64 ((w.part 1 + P : Nat) : Int))) = Ent.mk b2 0 (.cel 25) w'.cells
        rw [g2]
      · replace g3 : bitsI .or .u64 (w.c : Int) (shlI .u64 (c : Int) ((r : Int) * 8)) = ((w.c + P : Nat) : Int) := g3
        simp only [push_cast, seval, reduceCtorEq, hb3, hf, i1, i2, byteV_len, hqr, hat, ep, er, rn, wrap_u64' (n := (c : Int)) (by omega), wrap_i64' (show -9223372036854775808 ≤ (r : Int) * 8 ∧ (r : Int) * 8 ≤ 9223372036854775807 by omega), g3, wrap_i64' (show -9223372036854775808 ≤ (i : Int) + 1 ∧ (i : Int) + 1 ≤ 9223372036854775807 by omega)]
        refine ⟨i + 1, i2, by omega, rfl, ?_⟩
        rw [← hw']
        show Ent.mk b2 0 (.cel 25) (List.set w.cells 2 (.int .u64 ((w.part 2 + P : Nat) : Int))) = Ent.mk b2 0 (.cel 25) w'.cells
        rw [g2]
      · replace g3 : bitsI .or .u64 (w.d : Int) (shlI .u64 (c : Int) ((r : Int) * 8)) = ((w.d + P : Nat) : Int) := g3
        simp only [push_cast, seval, reduceCtorEq, hb3, hf, i1, i2, byteV_len, hqr, hat, ep, er, rn, wrap_u64' (n := (c : Int)) (by omega), wrap_i64' (show -9223372036854775808 ≤ (r : Int) * 8 ∧ (r : Int) * 8 ≤ 9223372036854775807 by omega), g3, wrap_i64' (show -9223372036854775808 ≤ (i : Int) + 1 ∧ (i : Int) + 1 ≤ 9223372036854775807 by omega)]
        refine ⟨i + 1, i2, by omega, rfl, ?_⟩
        rw [← hw']
        show Ent.mk b2 0 (.cel 25) (List.set w.cells 3 (.int .u64 ((w.part 3 + P : Nat) : Int))) = Ent.mk b2 0 (.cel 25) w'.cells
        rw [g2]
    · obtain rfl : i = q := by omega
      have hRw : W.of (beN (rv.take i)) = R := by rw [hRe, List.take_of_length_le (by omega)]
      rw [hRw]
      simp only [push_cast, seval, reduceCtorEq, hb3, hf, Nat.lt_irrefl]
      rfl
end Go.Proofs.YtolmipnaheifcaaGreatDoor
set_option linter.unusedSimpArgs false
set_option linter.unusedVariables false
namespace Go.Ev
noncomputable def szB : Nat → Bool := hid fun n => decide (n < 1099511627776)
theorem szB_in {n : Nat} (h : n < 1099511627776) : szB n = true := by unfold szB; rw [hid_eq, decide_eq_true h]
theorem szB_of {n : Nat} (h : szB n = true) : n < 1099511627776 := by unfold szB at h; rw [hid_eq, decide_eq_true_eq] at h; exact h
noncomputable def fromBG : List Value → Option Value
  | [.string b] => if szB b.size then some (frombW b.data.toList).v else none
  | _ => none
theorem ne10 : ((1 : Int) != 0) = true := rfl
theorem ne00 : ((0 : Int) != 0) = false := rfl
theorem eq10 : ((1 : Int) == 0) = false := rfl
theorem eq00 : ((0 : Int) == 0) = true := rfl
attribute [push_cast] fromBG ne10 ne00 eq10 eq00
end Go.Ev
namespace Go.Proofs.YtolmipnaheifcaaGreatDoor
open Go Go.Ev Go.Proofs
set_option maxRecDepth 100000
set_option maxHeartbeats 4000000
theorem wordFromBytesG (args : List Value) (v : Value) (h : fromBG args = some v) : CallsV Tryz.prog 29 args [] (Ret0 v) := by
  unfold fromBG at h
  split at h
  · split at h
    · rename_i hs; cases h; exact wordFromBytes _ (Nat.lt_trans (szB_of hs) (by decide))
    · cases h
  · cases h
theorem refBytesG (args : List Value) (v : Value) (h : wbytesG args = some v) : CallsV Tryz.prog 35 args [] (Ret0 v) := by
  obtain ⟨x, rfl, rfl⟩ := wun_some (g := fun a => .string ⟨(wbytes a).toArray⟩) (by funext l; rfl) h
  exact refBytes x
noncomputable def gL : Gam := (addG 30 fromBG (addG 29 fromBG (addG 35 wbytesG (addG 25 wbytesG gT))))
end Go.Proofs.YtolmipnaheifcaaGreatDoor
set_option linter.unusedSimpArgs false
set_option linter.unusedVariables false
namespace Go.Ev
def aheadD (i e a m : Nat) : Option Nat := if 16 ≤ i then some 13 else if 5000 ≤ m then some 2 else if e ≤ a then some 10 else none
theorem fromb_num {t : List UInt8} (h : t.length ≤ 8) : (frombW t).num = numN t := by
  have hl := numN_lt t
  have h3 : 256 ^ t.length ≤ 256 ^ 8 := Nat.pow_le_pow_right (by decide) h
  have h4 : (256 : Nat) ^ 8 = 18446744073709551616 := by decide
  rw [frombW_eq, List.take_of_length_le (by rw [List.length_reverse]; omega)]
  rw [W.num_of]
  exact Nat.mod_eq_of_lt (show numN t < _ by omega)
theorem nb_at {s : List UInt8} {a : Nat} (h : a < s.length) : (bs s).data[a]? = some (s.getD a 0) := by rw [getD_lt h]; exact nbs_idx h
end Go.Ev
namespace Go.Proofs.YtolmipnaheifcaaGreatDoor
open Go Go.Ev Go.Proofs
set_option maxRecDepth 100000
set_option maxHeartbeats 4000000
def decE (b : Nat) (s : List UInt8) (a m : Nat) : Ent := ⟨b, 0, .cel 66, [.string (bs s), .int .i64 (a : Int), .int .i64 (m : Int)]⟩
def faE (b x p : Nat) : Ent := ⟨b, 0, .cel 72, [.int .i64 (x : Int), .int .i64 (p : Int)]⟩
def faV (b : Nat) : Value := .iface 68 (.pointer (some ⟨b, 0, none⟩))
def AheadK (bd : Nat) (s : List UInt8) (i e a m : Nat) : Value → Hp → Prop := fun v H' =>
  (aheadD i e a m = none ∧ v = .nilIface ∧ H' = [decE bd s a (m + 1)]) ∨ ∃ x b, aheadD i e a m = some x ∧ v = faV b ∧ H' = [faE b x a, decE bd s a m]
theorem isIf_error : isIf Tryz.prog 62 = true := by kernel_rfl
theorem isCon_fault : isCon Tryz.prog 68 = true := by kernel_rfl
theorem isCon_fault2 : isCon Tryz.prog 70 = true := by kernel_rfl
attribute [push_cast] isIf_error isCon_fault isCon_fault2
theorem ahead_ok {bd : Nat} {s : List UInt8} {i e a m : Nat} (hi : i ≤ 1099511627776) (he : e ≤ 1099511627776) (ha : a ≤ 1099511627776) (hm : m ≤ 1099511627776) :
    CallsV Tryz.prog 73 [.pointer (some ⟨bd, 0, none⟩), .int .i64 (e : Int), .int .i64 (i : Int)] [decE bd s a m]
      (AheadK bd s i e a m) := by
  unfold decE
  refine callsO gN3_ok Tryz.mix Tryz.pl73 Tryz.func73 rfl Tryz.ntmps73 Tryz.results73 rfl (by first | rfl | assumption) (Nat.le_of_ble_eq_true rfl) (by kernel_rfl) ?_
  by_cases c1 : 16 ≤ i
  · have d1 : (16 : Int) ≤ (i : Int) := by omega
    simp only [push_cast, seval, reduceCtorEq, d1]
    intro b hb
    exact ⟨_, .refl _, .inr ⟨13, b, by unfold aheadD; rw [if_pos c1], rfl, rfl⟩⟩
  have d1 : ¬ (16 : Int) ≤ (i : Int) := by omega
  by_cases c2 : 5000 ≤ m
  · have d2 : (5000 : Int) ≤ (m : Int) := by omega
    simp only [push_cast, seval, reduceCtorEq, d1, d2]
    intro b hb
    exact ⟨_, .refl _, .inr ⟨2, b, by unfold aheadD; rw [if_neg c1, if_pos c2], rfl, rfl⟩⟩
  have d2 : ¬ (5000 : Int) ≤ (m : Int) := by omega
  by_cases c3 : e ≤ a
  · have d3 : (e : Int) ≤ (a : Int) := by omega
    simp only [push_cast, seval, reduceCtorEq, d1, d2, d3]
    intro b hb
    exact ⟨_, .refl _, .inr ⟨10, b, by unfold aheadD; rw [if_neg c1, if_neg c2, if_pos c3], rfl, rfl⟩⟩
  · have d3 : ¬ (e : Int) ≤ (a : Int) := by omega
    simp only [push_cast, seval, reduceCtorEq, d1, d2, d3, wrap_i64' (show -9223372036854775808 ≤ (m : Int) + 1 ∧ (m : Int) + 1 ≤ 9223372036854775807 by omega)]
    exact ⟨_, .refl _, .inl ⟨by unfold aheadD; rw [if_neg c1, if_neg c2, if_neg c3], rfl, rfl⟩⟩
noncomputable def gO1 : Gam := (addG 82 intG (addG 29 fromBG gN3))
attribute [push_cast] gO1
theorem gO1_ok : GamOk Tryz.prog gO1 := (addG_ok wordIntG (addG_ok wordFromBytesG gN3_ok))
attribute [push_cast] gO1
def SizeK (bd : Nat) (s : List UInt8) (k e a m : Nat) : Value → Hp → Prop := fun v H' =>
  (∃ x p b a', sizeD s k e a = .bad x p ∧ v = .tuple #[.int .i64 0, faV b] ∧ H' = [faE b x p, decE bd s a' m]) ∨ ∃ n b z, sizeD s k e a = .ok n b z ∧ v = .tuple #[.int .i64 (n : Int), .nilIface] ∧ H' = [decE bd s b m]
theorem size_ok {bd : Nat} {s : List UInt8} {k e a m : Nat} (hk : k ≤ 192) (hs : s.length ≤ 1099511627776) (he : e ≤ s.length) (ha : a < e) (h1 : k ≤ (s.getD a 0).toNat) (h2 : (s.getD a 0).toNat < k + 64) :
    CallsV Tryz.prog 74 [.pointer (some ⟨bd, 0, none⟩), .int .i64 (k : Int), .int .i64 (e : Int)] [decE bd s a m] (SizeK bd s k e a m) := by
  have b0 := nb_at (s := s) (a := a) (by omega)
  obtain ⟨n, hn⟩ : ∃ n, n = (s.getD a 0).toNat - k := ⟨_, rfl⟩
  have w0 : IntKind.i64.wrap (((s.getD a 0).toNat : Int) - (k : Int)) = (n : Int) := by rw [show ((s.getD a 0).toNat : Int) - (k : Int) = (n : Int) by omega]; exact IntWalk.i64_in _ (by omega)
  obtain ⟨c, hc⟩ : ∃ c, c = s.getD a 0 := ⟨_, rfl⟩
  rw [← hc] at b0 w0
  have wc : IntKind.i64.wrap (c.toNat : Int) = (c.toNat : Int) := IntWalk.i64_in _ (by have := c.toNat_lt; omega)
  obtain ⟨p, hp⟩ : ∃ p, p = a + 1 := ⟨_, rfl⟩
  have wp : IntKind.i64.wrap ((a : Int) + 1) = (p : Int) := by rw [show (a : Int) + 1 = (p : Int) by omega]; exact IntWalk.i64_in _ (by omega)
  have hD : sizeD s k e a = if n ≤ 55 then (if e - p < n then .bad 10 a else .ok n p 0) else if e - p < n - 55 then .bad 10 a
    else if s.getD p 0 = 0 ∨ numN ((s.drop p).take (n - 55)) ≤ 55 then .bad 11 p
    else if e - (p + (n - 55)) < numN ((s.drop p).take (n - 55)) then .bad 10 a
    else .ok (numN ((s.drop p).take (n - 55))) (p + (n - 55)) 0 := by rw [hn, hp]; rfl
  have hal : a < s.length := by omega
  have hal' : (a : Int) < (s.length : Int) := by omega
  unfold decE
  refine callsO gO1_ok Tryz.mix Tryz.pl74 Tryz.func74 rfl Tryz.ntmps74 Tryz.results74 rfl (by first | rfl | assumption) (Nat.le_of_ble_eq_true rfl) (by kernel_rfl) ?_
  by_cases c1 : n ≤ 55
  · have d1 : ¬ (55 : Int) < (n : Int) := by omega
    by_cases c2 : e - p < n
    · have d2 : (e : Int) - (p : Int) < (n : Int) := by omega
      simp only [push_cast, seval, reduceCtorEq, hal, hal', b0, w0, wc, d1, d2, wp, wrap_i64' (show -9223372036854775808 ≤ (e : Int) - (p : Int) ∧ (e : Int) - (p : Int) ≤ 9223372036854775807 by omega)]
      intro b hb
      exact ⟨_, .refl _, .inl ⟨10, a, b, p, by rw [hD, if_pos c1, if_pos c2], rfl, rfl⟩⟩
    · have d2 : ¬ (e : Int) - (p : Int) < (n : Int) := by omega
      simp only [push_cast, seval, reduceCtorEq, hal, hal', b0, w0, wc, d1, d2, wp, wrap_i64' (show -9223372036854775808 ≤ (e : Int) - (p : Int) ∧ (e : Int) - (p : Int) ≤ 9223372036854775807 by omega)]
      exact ⟨_, .refl _, .inr ⟨n, p, 0, by rw [hD, if_pos c1, if_neg c2], rfl, rfl⟩⟩
  have d1 : (55 : Int) < (n : Int) := by omega
  obtain ⟨g, hg⟩ : ∃ g, g = n - 55 := ⟨_, rfl⟩
  have w2 : IntKind.i64.wrap ((n : Int) - 55) = (g : Int) := by rw [show (n : Int) - 55 = (g : Int) by omega]; exact IntWalk.i64_in _ (by omega)
  by_cases c2 : e - p < g
  · have d2 : (e : Int) - (p : Int) < (g : Int) := by omega
    simp only [push_cast, seval, reduceCtorEq, hal, hal', b0, w0, wc, d1, w2, d2, wp, wrap_i64' (show -9223372036854775808 ≤ (e : Int) - (p : Int) ∧ (e : Int) - (p : Int) ≤ 9223372036854775807 by omega)]
    intro b hb
    exact ⟨_, .refl _, .inl ⟨10, a, b, p, by rw [hD, ← hg, if_neg c1, if_pos c2], rfl, rfl⟩⟩
  have d2 : ¬ (e : Int) - (p : Int) < (g : Int) := by omega
  obtain ⟨q, hq⟩ : ∃ q, q = p + g := ⟨_, rfl⟩
  have wq : IntKind.i64.wrap ((p : Int) + (g : Int)) = (q : Int) := by rw [show (p : Int) + (g : Int) = (q : Int) by omega]; exact IntWalk.i64_in _ (by omega)
  have q1 : p ≤ q := by omega
  have q2 : q ≤ s.length := by omega
  have q3 : q - p = g := by omega
  have q1' : (p : Int) ≤ (q : Int) := by omega
  have q2' : (q : Int) ≤ (s.length : Int) := by omega
  obtain ⟨t, ht⟩ : ∃ t, t = (s.drop p).take g := ⟨_, rfl⟩
  have tl : t.length = g := by rw [ht, List.length_take, List.length_drop]; omega
  have fb := fromb_num (t := t) (by omega)
  have hsz : szB t.length = true := szB_in (by omega)
  have t0 : 0 < t.length := by omega
  have t0' : (0 : Int) < (t.length : Int) := by omega
  have tb0 : (bs t).data[0]? = some (s.getD p 0) := by
    rw [nbs_idx t0]
    have := subS_succ (s := s) (a := p) (g - 1) (by omega)
    unfold subS at this
    rw [show g - 1 + 1 = g by omega, ← ht] at this
    congr 1
    simp only [this, List.getElem_cons_zero]
  obtain ⟨v, hv⟩ : ∃ v, v = numN t := ⟨_, rfl⟩
  rw [← hv] at fb
  have wpl : IntKind.i64.wrap ((p : Int) + 1) = (p : Int) + 1 := IntWalk.i64_in _ (by omega)
  rw [← hg, ← ht, ← hv] at hD
  rw [if_neg c1, if_neg c2] at hD
  have wa1 : IntKind.i64.wrap ((a : Int) + 1) = (p : Int) := wp
  by_cases z : s.getD p 0 = 0
  · have e0 : (((s.getD p 0).toNat : Int) == 0) = true := by rw [z]; rfl
    rw [if_pos (.inl z)] at hD
    simp only [push_cast, seval, reduceCtorEq, hal, hal', b0, w0, wc, d1, w2, d2, wp, wq, q1, q2, q3, q1', q2', ← ht, wrap_i64' (show -9223372036854775808 ≤ (e : Int) - (p : Int) ∧ (e : Int) - (p : Int) ≤ 9223372036854775807 by omega), hsz, t0, t0', tb0, e0]
    intro b hb
    exact ⟨_, .refl _, .inl ⟨11, p, b, q, hD, rfl, rfl⟩⟩
  have e0 : (((s.getD p 0).toNat : Int) == 0) = false := beq_eq_false_iff_ne.2 fun h => z (UInt8.toNat_inj.1 (show (s.getD p 0).toNat = 0 by omega))
  by_cases ok : v ≤ 4611686018427387903
  · have hI : intW (frombW t) = ((v : Int), true) := by rw [intW_eq, fb, if_pos ok]
    by_cases c3 : v ≤ 55
    · have d3 : (v : Int) ≤ 55 := by omega
      rw [if_pos (.inr c3)] at hD
      simp only [push_cast, seval, reduceCtorEq, hal, hal', b0, w0, wc, d1, w2, d2, wp, wq, q1, q2, q3, q1', q2', ← ht, wrap_i64' (show -9223372036854775808 ≤ (e : Int) - (p : Int) ∧ (e : Int) - (p : Int) ≤ 9223372036854775807 by omega), hsz, t0, t0', tb0, e0, hI, d3]
      intro b hb
      exact ⟨_, .refl _, .inl ⟨11, p, b, q, hD, rfl, rfl⟩⟩
    have d3 : ¬ (v : Int) ≤ 55 := by omega
    rw [if_neg (fun h => h.elim z c3)] at hD
    by_cases c4 : e - (p + g) < v
    · have d4 : (e : Int) - (q : Int) < (v : Int) := by omega
      rw [if_pos c4] at hD
      simp only [push_cast, seval, reduceCtorEq, hal, hal', b0, w0, wc, d1, w2, d2, wp, wq, q1, q2, q3, q1', q2', ← ht, wrap_i64' (show -9223372036854775808 ≤ (e : Int) - (p : Int) ∧ (e : Int) - (p : Int) ≤ 9223372036854775807 by omega), wrap_i64' (show -9223372036854775808 ≤ (e : Int) - (q : Int) ∧ (e : Int) - (q : Int) ≤ 9223372036854775807 by omega), hsz, t0, t0', tb0, e0, hI, d3, d4]
      intro b hb
      exact ⟨_, .refl _, .inl ⟨10, a, b, q, hD, rfl, rfl⟩⟩
    · have d4 : ¬ (e : Int) - (q : Int) < (v : Int) := by omega
      rw [if_neg c4] at hD
      simp only [push_cast, seval, reduceCtorEq, hal, hal', b0, w0, wc, d1, w2, d2, wp, wq, q1, q2, q3, q1', q2', ← ht, wrap_i64' (show -9223372036854775808 ≤ (e : Int) - (p : Int) ∧ (e : Int) - (p : Int) ≤ 9223372036854775807 by omega), wrap_i64' (show -9223372036854775808 ≤ (e : Int) - (q : Int) ∧ (e : Int) - (q : Int) ≤ 9223372036854775807 by omega), hsz, t0, t0', tb0, e0, hI, d3, d4]
      exact ⟨_, .refl _, .inr ⟨v, p + g, 0, hD, rfl, by rw [← hq]; rfl⟩⟩
  · have hI : intW (frombW t) = (0, false) := by rw [intW_eq, fb, if_neg ok]
    have c3 : ¬ v ≤ 55 := by omega
    rw [if_neg (fun h => h.elim z c3), if_pos (by omega)] at hD
    simp only [push_cast, seval, reduceCtorEq, hal, hal', b0, w0, wc, d1, w2, d2, wp, wq, q1, q2, q3, q1', q2', ← ht, wrap_i64' (show -9223372036854775808 ≤ (e : Int) - (p : Int) ∧ (e : Int) - (p : Int) ≤ 9223372036854775807 by omega), wrap_i64' (show -9223372036854775808 ≤ (e : Int) - (q : Int) ∧ (e : Int) - (q : Int) ≤ 9223372036854775807 by omega), hsz, t0, t0', tb0, e0, hI]
    intro b hb
    exact ⟨_, .refl _, .inl ⟨10, a, b, q, hD, rfl, rfl⟩⟩
end Go.Proofs.YtolmipnaheifcaaGreatDoor
set_option linter.unusedSimpArgs false
set_option linter.unusedVariables false
namespace Go.Ev
def rlistPG : List Value → Option Value
  | [.slice p n c] => some (.agg #[.bool true, .string (bs []), .slice p n c])
  | _ => none
attribute [push_cast] rlistPG
theorem append_hA {P : Program} {A X N : Hp} {st xt e sz by_ n m : Nat} {cs ys : List Value} {v x : Value} {K : Value → Hp → Prop} (ho : OutG e sz cs n v N) (hA : freshN A N) (hs : slI P st = some (e, sz, by_)) (hx : srcL P (A ++ (N ++ X)) xt x sz = some (ys, m)) (hl : ys.length = m * sz) (h1 : ys.all oneC = true) (hb : (n + m) * by_ ≤ two47)
    (hk : ∀ v' N', OutG e sz (cs ++ ys) (n + m) v' N' → freshN N' (A ++ X) → K v' (N' ++ (A ++ X))) : evAppend P (A ++ (N ++ X)) st xt v x K := by
  have hsz : 0 < sz := (slI_eq hs).2.elim fun _ h => h.elim fun _ h => h.2.2.2.2.2.1
  unfold evAppend
  rw [hs]
  dsimp only
  rw [hx]
  dsimp only
  rcases ho with ⟨rfl, rfl, rfl, rfl⟩ | ⟨b, c, rfl, hc, hcl, rfl⟩
  · refine ⟨⟨rfl, rfl⟩, fun hm => ?_, fun hm => ⟨by simpa using hb, fun b c' hf hc' => ?_⟩⟩
    · subst hm
      have : ys = [] := List.length_eq_zero_iff.1 (by simpa using hl)
      subst this
      exact hk _ [] (.inl ⟨rfl, rfl, rfl, rfl⟩) trivial
    · have := hk (.slice (some ⟨b, 0, none⟩) (0 + m) c') [⟨b, 0, .vec e sz c', [] ++ ys⟩] (.inr ⟨b, c', rfl, by omega, by simpa using hl, rfl⟩) ⟨hf, trivial⟩
      rw [Nat.zero_add] at this
      exact this
  · have hb' : ∀ a ∈ A, ¬ b = a.blk := fun a ha h => by
      have := freshN_iff.1 hA a ha _ (List.mem_singleton.2 rfl)
      exact this h
    have e1 : findE (A ++ ([⟨b, 0, .vec e sz c, cs⟩] ++ X)) b = some ⟨b, 0, .vec e sz c, cs⟩ := by rw [findE_A hb']; simp [findE]
    have e2 : remE (A ++ ([⟨b, 0, .vec e sz c, cs⟩] ++ X)) b = A ++ X := by rw [remE_A hb']; simp [remE]
    dsimp only
    rw [e1, e2]
    dsimp only
    rw [if_pos hcl]
    refine ⟨⟨rfl, rfl, rfl, rfl, hcl⟩, hb, h1, fun b' c' hf hc' => ?_⟩
    exact hk _ [⟨b', 0, .vec e sz c', cs ++ ys⟩] (.inr ⟨b', c', rfl, hc', by rw [List.length_append, hcl, hl, Nat.add_mul], rfl⟩) ⟨hf, trivial⟩
theorem push_hA {P : Program} {α : Type} {c : α → List Value} {e e' s' sz by_ st q : Nat} {ag : Bool} {l : List α} {x : α} {v : Value} (A : Hp) {N X : Hp} {b k : Nat} {K : Value → Hp → Prop} (ho : OutG e sz (l.flatMap c) l.length v N) (hA : freshN (⟨b, 0, .vec e' s' 1, c x⟩ :: A) N) (hs : slI P st = some (e, sz, by_)) (he : elemI P st = some (none, q, ag))
    (hl : (c x).length = sz) (h1 : (c x).all oneC = true) (hb : (l.length + 1) * by_ ≤ two47)
    (hk : ∀ v' N', OutG e sz ((l ++ [x]).flatMap c) (l ++ [x]).length v' N' → freshN N' (⟨b, 0, .vec e' s' 1, c x⟩ :: (A ++ X)) → K v' (N' ++ ⟨b, 0, .vec e' s' 1, c x⟩ :: (A ++ X))) : evAppend P (⟨b, 0, .vec e' s' 1, c x⟩ :: (A ++ (N ++ X))) st st v (.slice (some ⟨b, 0, none⟩) 1 k) K := by
  refine append_hA (A := ⟨b, 0, .vec e' s' 1, c x⟩ :: A) (e := e) (sz := sz) (by_ := by_) (n := l.length) (m := 1) (ys := c x) ho hA hs ?_ (by rw [hl, Nat.one_mul]) h1 hb fun v' N' ho' hf' => hk v' N' ?_ hf'
  · unfold srcL
    rw [he]
    dsimp only
    unfold cellsAt
    simp only [List.cons_append, findE, if_true, Nat.le_refl, Nat.sub_self, subL, Nat.zero_add, List.drop_zero, Nat.one_mul]
    rw [if_pos (Nat.le_of_eq hl.symm), List.take_of_length_le (Nat.le_of_eq hl)]
  · rw [List.flatMap_append, List.length_append, List.flatMap_cons, List.flatMap_nil, List.append_nil]
    exact ho'
theorem subH_skip6 {a : Ent} {X Y : Hp} (h : fresh a.blk Y) (hs : subH X Y) : subH (a :: X) Y := by
  induction Y generalizing X with
  | nil => exact trivial
  | cons e r ih =>
    refine ⟨by simp only [findE]; rw [if_neg h.2.1]; exact hs.1, ?_⟩
    simp only [remE]
    rw [if_neg h.2.1]
    exact ih h.2.2 hs.2
end Go.Ev
namespace Go.Proofs.YtolmipnaheifcaaGreatDoor
open Go Go.Ev Go.Proofs
set_option maxRecDepth 100000
set_option maxHeartbeats 4000000
theorem rlistP_ok (p : Option Addr) (n c : Nat) : CallsV Tryz.prog 9 [.slice p n c] [] (Ret0 (.agg #[.bool true, .string (bs []), .slice p n c])) := by
  refine callsO gO1_ok Tryz.mix Tryz.pl9 Tryz.func9 rfl Tryz.ntmps9 Tryz.results9 rfl (by first | rfl | assumption) (Nat.le_of_ble_eq_true rfl) (by kernel_rfl) ?_
  simp only [push_cast, seval, reduceCtorEq]
  rfl
theorem rlistPG_ok (args : List Value) (v : Value) (h : rlistPG args = some v) : CallsV Tryz.prog 9 args [] (Ret0 v) := by
  unfold rlistPG at h
  split at h
  · cases h; exact rlistP_ok _ _ _
  · cases h
noncomputable def gO2 : Gam := (addG 9 rlistPG gO1)
attribute [push_cast] gO2
theorem gO2_ok : GamOk Tryz.prog gO2 := (addG_ok rlistPG_ok gO1_ok)
attribute [push_cast] gO2
theorem Ext.front {N M : Hp} (hm : marksOf M = []) (hn : marksOf N = []) (hf : freshN N M) : Ext M (N ++ M) := by
  refine ⟨by rw [marks_append, hm, hn]; rfl, fun b o n cs h => ?_⟩
  obtain ⟨e, he⟩ := cellsAt_findS h
  unfold cellsAt at h ⊢
  rw [find_behind hf b e he]
  rw [he] at h
  exact h
theorem cntI_pos : ∀ x : It, 0 < cntI x
  | .mk _ _ ks => by rw [cntI]; omega
def ItemK (bd : Nat) (s : List UInt8) (r : Rd It) : Value → Hp → Prop := fun v H' =>
  (∃ x p b a' m' c0 c1 c2 n c, r = .bad x p ∧ v = .tuple #[.agg #[.bool c0, .string c1, .slice c2 n c], faV b] ∧ H' = [faE b x p, decE bd s a' m']) ∨
  ∃ x a' m' y N, r = .ok x a' m' ∧ v = .tuple #[Iv.v y, .nilIface] ∧ y.it = x ∧ H' = decE bd s a' m' :: N ∧ (allWr N ∧ marksOf N = [] ∧ fresh bd N) ∧ IvOk N y
def plOL : Plans := fun i => if i = 4 then [(0, 9)] else Tryz.pl75 i
attribute [push_cast] plOL
theorem dlist_ok {bd : Nat} {s : List UInt8} {d e a m i : Nat} (hs : s.length ≤ 1099511627776) (he : e ≤ s.length) (hi : i ≤ 16) (hm : m ≤ 5000) (hae : a ≤ e)
    (hf : ∀ a m, a < e → m ≤ 5000 → CallsV Tryz.prog 56 [.pointer (some ⟨bd, 0, none⟩), .int .i64 (e : Int), .int .i64 ((i : Int) + 1)] [decE bd s a m] (ItemK bd s (itemD s d e a m))) :
    CallsV Tryz.prog 75 [.pointer (some ⟨bd, 0, none⟩), .int .i64 (e : Int), .int .i64 (i : Int)] [decE bd s a m] (ItemK bd s (packD (listD (fun a m => itemD s d e a m) e (s.length + 1) a m []))) := by
  obtain ⟨R, hR⟩ : ∃ R, R = listD (fun a m => itemD s d e a m) e (s.length + 1) a m [] := ⟨_, rfl⟩
  rw [← hR]
  have hDe : ∀ a m, decE bd s a m = ⟨bd, 0, .cel 66, [.string (bs s), .int .i64 (a : Int), .int .i64 (m : Int)]⟩ := fun _ _ => rfl
  rw [hDe]
  refine callsO gO2_ok Tryz.mix plOL Tryz.func75 rfl Tryz.ntmps75 Tryz.results75 rfl (by first | rfl | assumption) (Nat.le_of_ble_eq_true rfl) (by kernel_rfl) ?_
  simp only [push_cast, seval, reduceCtorEq]
  intro b6 hb6 b8 hb8
  refine loopO gO2_ok (pl := plOL) Tryz.mix (X := {x : ((Nat × (Nat × Nat)) × (List Iv × Value)) × (Hp × Hp) // freshN x.2.1 x.2.2 ∧ fresh b8 (x.2.1 ++ x.2.2) ∧ fresh b6 (x.2.1 ++ x.2.2) ∧ fresh bd (x.2.1 ++ x.2.2)})
    (fun x => ([(0, .pointer (some ⟨bd, 0, none⟩)), (1, .int .i64 (e : Int)), (2, .int .i64 (i : Int)), (6, .pointer (some ⟨b6, 0, none⟩)), (8, .pointer (some ⟨b8, 0, none⟩))],
      ⟨b8, 0, .cel 29, [.bool true, .string (bs []), x.1.1.2.2]⟩ :: ⟨b6, 0, .cel 29, [.bool false, .string ByteArray.empty, .slice none 0 0]⟩ :: decE bd s x.1.1.1.2.1 x.1.1.1.2.2 :: (x.1.2.1 ++ x.1.2.2)))
    (fun x => listD (fun a m => itemD s d e a m) e x.1.1.1.1 x.1.1.1.2.1 x.1.1.1.2.2 (x.1.1.2.1.map Iv.it) = R ∧ x.1.1.1.2.1 ≤ e ∧ x.1.1.1.2.2 ≤ 5000 ∧ e - x.1.1.1.2.1 < x.1.1.1.1 ∧ x.1.1.2.1.length ≤ x.1.1.1.2.2 ∧
      OutG 29 3 (x.1.1.2.1.flatMap Iv.cells) x.1.1.2.1.length x.1.1.2.2 x.1.2.1 ∧ (∀ y ∈ x.1.1.2.1, IvOk x.1.2.2 y) ∧ allWr x.1.2.2 ∧ marksOf x.1.2.2 = [])
    (fun x => x.1.1.1.1) ⟨(((s.length + 1, (a, m)), ([], .slice none 0 0)), ([], [])), ⟨trivial, trivial, trivial, trivial⟩⟩ ?_ ?_ (by kernel_rfl) ?_
  · exact ⟨hR.symm, hae, hm, by dsimp only; omega, Nat.zero_le _, .inl ⟨rfl, rfl, rfl, rfl⟩, fun y hy => absurd hy (by simp), trivial, rfl⟩
  · rw [hDe]
    simp only [push_cast, seval, reduceCtorEq]
  · rintro ⟨⟨⟨⟨k, ⟨a, m⟩⟩, ⟨ks, sv⟩⟩, ⟨N, M⟩⟩, hNM, q8, q6, qd⟩ ⟨hL, hae, hm, hk, hkm, ho, hok, hwM, hmM⟩
    dsimp only at hNM q8 q6 qd hL hae hm hk hkm ho hok hwM hmM ⊢
    obtain ⟨pk, ck, rfl⟩ := ho.slice
    rcases Nat.lt_or_ge a e with hlt | hge
    · have d1 : (a : Int) < (e : Int) := by omega
      rw [hDe]
      simp only [push_cast, seval, reduceCtorEq, d1, wrap_i64' (show -9223372036854775808 ≤ (i : Int) + 1 ∧ (i : Int) + 1 ≤ 9223372036854775807 by omega), hb6, hb8]
      refine CallsV.useM (m := decE bd s a m) (Hf := []) (hf a m hlt hm) (by rw [hDe]; simp only [push_cast, seval, reduceCtorEq, hb6, hb8]) rfl trivial ?_
      have hrem : remE (⟨b8, 0, .cel 29, [.bool true, .string (bs []), .slice pk ks.length ck]⟩ :: ⟨b6, 0, .cel 29, [.bool false, .string ByteArray.empty, .slice none 0 0]⟩ :: decE bd s a m :: (N ++ M)) (decE bd s a m).blk =
        ⟨b8, 0, .cel 29, [.bool true, .string (bs []), .slice pk ks.length ck]⟩ :: ⟨b6, 0, .cel 29, [.bool false, .string ByteArray.empty, .slice none 0 0]⟩ :: (N ++ M) := by rw [hDe]; simp only [push_cast, seval, reduceCtorEq, hb6, hb8]
      obtain ⟨k', rfl⟩ : ∃ k', k = k' + 1 := ⟨k - 1, by omega⟩
      rw [listD, if_pos hlt] at hL
      rw [← hDe, hrem]
      rintro v N1 (⟨x, p, b, a', m', c0, c1, c2, n, c, hr, rfl, rfl⟩ | ⟨x, a', m', y, Nk, hr, rfl, rfl, rfl, ⟨hwk, hmk, hdk⟩, hyk⟩)
      · refine ⟨⟨trivial, trivial, trivial⟩, rfl, fun hfr => ?_⟩
        rw [hr] at hL
        dsimp only at hL
        unfold faE decE at hfr ⊢
        unfold faV
        simp only [push_cast, seval, reduceCtorEq] at hfr
        simp only [push_cast, seval, reduceCtorEq, hfr, hb6, hb8]
        intro b9 hb9
        refine regO gO2_ok ?_
        simp only [push_cast, seval, reduceCtorEq, hfr, hb6, hb8, hb9]
        refine ⟨_, ?_, .inl ⟨x, p, b, a', m', _, _, _, _, _, by rw [← hL]; rfl, rfl, rfl⟩⟩
        exact ((List.nil_sublist _).cons_cons _).cons_cons _ |>.cons _
      · refine ⟨⟨trivial, hwk⟩, by rw [show decE bd s a' m' :: Nk = [decE bd s a' m'] ++ Nk from rfl, marks_append, hmk]; rfl, fun hfr => ?_⟩
        rw [hr] at hL
        dsimp only at hL
        obtain ⟨fd, fk⟩ := hfr
        obtain ⟨yl, yb, yv, yks⟩ := y
        obtain ⟨py, cy, hsy, -⟩ := id hyk.li
        replace hsy : yv = .slice py yks.length cy := hsy
        subst hsy
        have hyv : (Iv.mk yl yb (.slice py yks.length cy) yks).v = .agg #[.bool yl, .string (bs yb), .slice py yks.length cy] := rfl
        unfold decE at fd ⊢
        simp only [push_cast, seval, reduceCtorEq] at fd
        simp only [push_cast, seval, reduceCtorEq, fd, hyv, hb6, hb8]
        intro b9 hb9
        have h9k : fresh b9 Nk := by
          have := hb9.2.2
          exact (fresh_app_iff.1 this).1
        have h9r := (fresh_app_iff.1 hb9.2.2).2
        have hb9' : ¬ b9 = bd ∧ ¬ bd = b9 ∧ ¬ b9 = b8 ∧ ¬ b8 = b9 ∧ ¬ b9 = b6 ∧ ¬ b6 = b9 := ⟨hb9.1, hb9.2.1, h9r.1, h9r.2.1, h9r.2.2.1, h9r.2.2.2.1⟩
        have h9N : fresh b9 (N ++ M) := h9r.2.2.2.2
        obtain ⟨M2, hM2⟩ : ∃ M2, M2 = Nk ++ M := ⟨_, rfl⟩
        refine WpV.perm (H' := ⟨b9, 0, .cel 29, [.bool yl, .string (bs yb), .slice py yks.length cy]⟩ :: ⟨b8, 0, .cel 29, [.bool true, .string (bs []), .slice pk ks.length ck]⟩ :: ⟨b6, 0, .cel 29, [.bool false, .string ByteArray.empty, .slice none 0 0]⟩ :: ⟨bd, 0, .cel 66, [.string (bs s), .int .i64 (a' : Int), .int .i64 (m' : Int)]⟩ :: (N ++ M2)) ?_ ?_ ?_
        · rw [hM2]
          classical
          refine List.perm_iff_count.2 fun z => ?_
          simp only [List.count_append, List.count_cons]
          omega
        · rw [hM2]
          simp [marks_append, marksOf, hmk]
        refine regO gO2_ok ?_
        simp only [push_cast, seval, reduceCtorEq, hb9', hb6, hb8]
        intro b hb
        have hbN : fresh b (N ++ M2) := hb.2.2.2.2.2.2.2.2
        have hb' : ¬ b = b9 ∧ ¬ b9 = b ∧ ¬ b = b8 ∧ ¬ b8 = b ∧ ¬ b = b6 ∧ ¬ b6 = b ∧ ¬ b = bd ∧ ¬ bd = b := ⟨hb.1, hb.2.1, hb.2.2.1, hb.2.2.2.1, hb.2.2.2.2.1, hb.2.2.2.2.2.1, hb.2.2.2.2.2.2.1, hb.2.2.2.2.2.2.2.1⟩
        have zb : fresh b N := (fresh_app_iff.1 hbN).1
        have z9 : fresh b9 N := (fresh_app_iff.1 h9N).1
        have z8 : fresh b8 N := (fresh_app_iff.1 q8).1
        have z6 : fresh b6 N := (fresh_app_iff.1 q6).1
        have zd : fresh bd N := (fresh_app_iff.1 qd).1
        obtain ⟨g1, g2, g3, g4, g5, -⟩ := itemD_ok s d e he _ _ _ _ _ hr
        have hcp := cntI_pos (Iv.mk yl yb (.slice py yks.length cy) yks).it
        have hkb : (ks.length + 1) * 48 ≤ two47 := by unfold two47; omega
        refine push_hA (P := Tryz.prog) (c := Iv.cells) (x := Iv.mk yl yb (.slice py yks.length cy) yks) [_, _, _, _] (by_ := 48) (q := 3) (ag := true) ho ⟨zb, z9, z8, z6, zd, trivial⟩ (by simp only [push_cast, seval, reduceCtorEq]) (by simp only [push_cast, seval, reduceCtorEq]) rfl rfl hkb fun v3 N3 ho4 hf4 => ?_
        obtain ⟨Y, hY⟩ : ∃ Y, Y = Iv.mk yl yb (.slice py yks.length cy) yks := ⟨_, rfl⟩
        rw [← hY] at ho4
        obtain ⟨p3, k3, hv3⟩ := ho4.slice
        subst hv3
        rcases ho4 with ⟨r1, -⟩ | ⟨bu, cu, r3, r4, r5, hN3⟩
        · rw [List.length_append] at r1; simp at r1
        obtain ⟨hq3, -⟩ := (show freshN [⟨bu, 0, .vec 29 3 cu, (ks ++ [Y]).flatMap Iv.cells⟩] _ from hN3 ▸ hf4)
        rw [hN3]
        have hbu := hq3
        simp only [push_cast, seval, reduceCtorEq] at hbu
        obtain ⟨u, u', u9, u9', u8, u8', u6, u6', ud, ud', uM⟩ := hbu
        have hbu' : ¬ bu = b ∧ ¬ b = bu ∧ ¬ bu = b9 ∧ ¬ b9 = bu ∧ ¬ bu = b8 ∧ ¬ b8 = bu ∧ ¬ bu = b6 ∧ ¬ b6 = bu ∧ ¬ bu = bd ∧ ¬ bd = bu := ⟨u, u', u9, u9', u8, u8', u6, u6', ud, ud'⟩
        simp only [push_cast, seval, reduceCtorEq, hb9', hb6, hb8, hb', hbu']
        obtain ⟨fk86, fkNM⟩ := freshN_mono (A := [⟨b8, 0, .cel 29, [.bool true, .string (bs []), .slice pk ks.length ck]⟩, ⟨b6, 0, .cel 29, [.bool false, .string ByteArray.empty, .slice none 0 0]⟩]) (B := N ++ M) fk
        obtain ⟨k8, k6, -⟩ := freshN_sym fk86
        have fkM := (freshN_mono fkNM).2
        have v8 : fresh b8 M2 := by rw [hM2]; exact fresh_appS k8 (fresh_app_iff.1 q8).2
        have v6 : fresh b6 M2 := by rw [hM2]; exact fresh_appS k6 (fresh_app_iff.1 q6).2
        have vd : fresh bd M2 := by rw [hM2]; exact fresh_appS hdk (fresh_app_iff.1 qd).2
        have vb : fresh b M2 := (fresh_app_iff.1 hbN).2
        have v9 : fresh b9 M2 := by rw [hM2]; exact fresh_appS h9k (fresh_app_iff.1 h9N).2
        have hl2 : (ks ++ [Y]).length = ks.length + 1 := by simp
        have hYk : IvOk Nk Y := by rw [hY]; exact hyk
        have w2 : allWr M2 := by rw [hM2]; exact allWr_app hwk hwM
        have mk2 : marksOf M2 = [] := by rw [hM2, marks_append, hmk, hmM]; rfl
        have hxM : Ext M M2 := by rw [hM2]; exact Ext.front hmM hmk fkM
        have hxN : Ext Nk M2 := by rw [hM2]; exact Ext.app hmk hmM
        refine ⟨⟨(((k', (a', m')), (ks ++ [Y], .slice p3 (ks ++ [Y]).length k3)), ([⟨bu, 0, .vec 29 3 cu, (ks ++ [Y]).flatMap Iv.cells⟩], M2)), ⟨uM, trivial⟩, ⟨u8', u8, v8⟩, ⟨u6', u6, v6⟩, ⟨ud', ud, vd⟩⟩, ⟨?_, g2, g5, by dsimp only; omega, by dsimp only; omega, .inr ⟨bu, cu, r3, r4, r5, rfl⟩, fun z hz => ?_, w2, mk2⟩, Nat.lt_succ_self _, ⟨?_, rfl, ?_⟩, ?_⟩
        · dsimp only
          rw [List.map_append, List.map_cons, List.map_nil, hY]
          exact hL
        · rcases List.mem_append.1 hz with hz | hz
          · exact (hok z hz).ext hxM
          · rw [List.mem_singleton.1 hz]; exact hYk.ext hxN
        · dsimp only; rw [hl2]
        · refine ⟨by simp [findE], ?_⟩
          simp only [remE, if_true]
          exact subH_skip6 vb (subH_skip6 v9 (subH_self M2))
        · rfl
    · have d1 : ¬ (a : Int) < (e : Int) := by omega
      rw [hDe]
      simp only [push_cast, seval, reduceCtorEq, d1, hb6, hb8]
      have hke : R = .ok (ks.map Iv.it) a m := by
        rw [← hL]
        cases k with
        | zero => omega
        | succ k => rw [listD, if_neg (by omega)]
      refine ⟨decE bd s a m :: (N ++ M), ?_, .inr ⟨_, a, m, .mk true [] (.slice pk ks.length ck) ks, N ++ M, by rw [hke]; rfl, rfl, by simp only [Iv.it]; rw [Iv.its_map], rfl, ⟨allWr_app ho.wr.1 hwM, by rw [marks_append, ho.wr.2, hmM]; rfl, qd⟩, ?_⟩⟩
      · rw [dropM_eq (by rw [marks_append, ho.wr.2, hmM]; rfl)]
        exact ((List.Sublist.refl _).cons _).cons _
      · exact .mk _ (ho.liR rfl rfl M) (by show ks.length ≤ _; omega) fun y hy => (hok y hy).ext (Ext.front hmM ho.wr.2 hNM)
end Go.Proofs.YtolmipnaheifcaaGreatDoor
set_option linter.unusedSimpArgs false
set_option linter.unusedVariables false
namespace Go.Ev
theorem updE_behind {b : Nat} {M : Hp} {cs : List Value} : ∀ {N : Hp}, fresh b N → updE (N ++ M) b cs = N ++ updE M b cs
  | [], _ => rfl
  | e :: r, h => by rw [List.cons_append, updE, if_neg h.1, updE_behind h.2.2]; rfl
theorem findE_behind1 {b : Nat} {M : Hp} : ∀ {N : Hp}, fresh b N → findE (N ++ M) b = findE M b
  | [], _ => rfl
  | e :: r, h => by rw [List.cons_append, findE, if_neg h.1, findE_behind1 h.2.2]
end Go.Ev
namespace Go.Proofs.YtolmipnaheifcaaGreatDoor
open Go Go.Ev Go.Proofs
set_option maxRecDepth 100000
set_option maxHeartbeats 4000000
theorem ditem_ok {bd : Nat} {s : List UInt8} (hs : s.length ≤ 1099511627776) : ∀ (d i : Nat), i + d = 16 → ∀ (e a m : Nat), e ≤ s.length → a ≤ e → m ≤ 5000 →
    CallsV Tryz.prog 56 [.pointer (some ⟨bd, 0, none⟩), .int .i64 (e : Int), .int .i64 (i : Int)] [decE bd s a m] (ItemK bd s (itemD s d e a m)) := by
  intro d
  induction d with
  | zero =>
    intro i hi e a m he hae hm
    have hDe : ∀ a m, decE bd s a m = ⟨bd, 0, .cel 66, [.string (bs s), .int .i64 (a : Int), .int .i64 (m : Int)]⟩ := fun _ _ => rfl
    rw [itemD_zero, hDe]
    refine callsO gO2_ok Tryz.mix Tryz.pl56 Tryz.func56 rfl Tryz.ntmps56 Tryz.results56 rfl (by first | rfl | assumption) (Nat.le_of_ble_eq_true rfl) (by kernel_rfl) ?_
    simp only [push_cast, seval, reduceCtorEq]
    intro b6 hb6
    refine CallsV.useM (m := decE bd s a m) (Hf := []) (ahead_ok (by omega) (by omega) (by omega) (by omega)) (by rw [hDe]; simp only [push_cast, seval, reduceCtorEq, hb6]) rfl trivial ?_
    rintro v N (⟨h1, rfl, rfl⟩ | ⟨x, b, h1, rfl, rfl⟩)
    · unfold aheadD at h1
      rw [if_pos (by omega)] at h1
      cases h1
    unfold aheadD at h1
    rw [if_pos (by omega)] at h1
    cases h1
    refine ⟨⟨trivial, trivial, trivial⟩, rfl, fun hfr => ?_⟩
    unfold faE decE at hfr ⊢
    unfold faV
    simp only [push_cast, seval, reduceCtorEq, hb6] at hfr
    simp only [push_cast, seval, reduceCtorEq, hb6, hfr]
    exact ⟨_, ((List.nil_sublist _).cons_cons _).cons_cons _, .inl ⟨13, a, b, a, m, _, _, _, _, _, rfl, rfl, rfl⟩⟩
  | succ d ih =>
    intro i hi e a m he hae hm
    have hDe : ∀ a m, decE bd s a m = ⟨bd, 0, .cel 66, [.string (bs s), .int .i64 (a : Int), .int .i64 (m : Int)]⟩ := fun _ _ => rfl
    obtain ⟨R, hR⟩ : ∃ R, R = itemD s (d + 1) e a m := ⟨_, rfl⟩
    rw [← hR, hDe]
    rw [itemD_succ] at hR
    unfold stepD at hR
    refine callsO gO2_ok Tryz.mix Tryz.pl56 Tryz.func56 rfl Tryz.ntmps56 Tryz.results56 rfl (by first | rfl | assumption) (Nat.le_of_ble_eq_true rfl) (by kernel_rfl) ?_
    simp only [push_cast, seval, reduceCtorEq]
    intro b6 hb6
    refine CallsV.useM (m := decE bd s a m) (Hf := []) (ahead_ok (by omega) (by omega) (by omega) (by omega)) (by rw [hDe]; simp only [push_cast, seval, reduceCtorEq, hb6]) rfl trivial ?_
    rintro v N (⟨h1, rfl, rfl⟩ | ⟨x, b, h1, rfl, rfl⟩)
    case inr =>
      have hb : R = .bad x a := by
        rw [hR]
        unfold aheadD at h1
        rw [if_neg (by omega)] at h1
        split at h1
        · cases h1; rw [if_pos (by assumption)]
        · rename_i c1
          rw [if_neg c1]
          split at h1
          · cases h1; rw [if_pos (by assumption)]
          · cases h1
      refine ⟨⟨trivial, trivial, trivial⟩, rfl, fun hfr => ?_⟩
      unfold faE decE at hfr ⊢
      unfold faV
      simp only [push_cast, seval, reduceCtorEq, hb6] at hfr
      simp only [push_cast, seval, reduceCtorEq, hb6, hfr]
      exact ⟨_, ((List.nil_sublist _).cons_cons _).cons_cons _, .inl ⟨x, a, b, a, m, _, _, _, _, _, hb, rfl, rfl⟩⟩
    have h5 : ¬ 5000 ≤ m ∧ ¬ e ≤ a := by
      unfold aheadD at h1
      rw [if_neg (by omega)] at h1
      split at h1
      · cases h1
      · rename_i c1
        split at h1
        · cases h1
        · rename_i c2; exact ⟨c1, c2⟩
    rw [if_neg h5.1, if_neg h5.2] at hR
    obtain ⟨h5a, h5b⟩ := h5
    refine ⟨⟨trivial, trivial⟩, rfl, fun hfr => ?_⟩
    clear hfr
    have hal : a < s.length := by omega
    have hal' : (a : Int) < (s.length : Int) := by omega
    have b0 := nb_at hal
    obtain ⟨c, hc⟩ : ∃ c, c = s.getD a 0 := ⟨_, rfl⟩
    rw [← hc] at b0 hR
    obtain ⟨p, hp⟩ : ∃ p, p = a + 1 := ⟨_, rfl⟩
    have wp : IntKind.i64.wrap ((a : Int) + 1) = (p : Int) := by rw [show (a : Int) + 1 = (p : Int) by omega]; exact IntWalk.i64_in _ (by omega)
    unfold decE
    by_cases c1 : c.toNat < 128
    · have d1 : (c.toNat : Int) < 128 := by omega
      rw [if_pos c1] at hR
      have p1 : a ≤ p := by omega
      have p1' : (a : Int) ≤ (p : Int) := by omega
      have p2 : p ≤ s.length := by omega
      have p2' : (p : Int) ≤ (s.length : Int) := by omega
      have p3 : p - a = 1 := by omega
      have ht : List.take 1 (List.drop a s) = [c] := by
        have := subS_succ (s := s) (a := a) 0 hal
        unfold subS at this
        rw [this, hc]; rfl
      simp only [push_cast, seval, reduceCtorEq, hb6, hal, hal', b0, d1, wp, p1, p1', p2, p2', p3, ht]
      exact ⟨[decE bd s p (m + 1)], (List.nil_sublist _).cons_cons _, .inr ⟨_, p, m + 1, .mk false [c] (.slice none 0 0) [], [], by rw [hR, hp], rfl, by simp only [Iv.it, Iv.its], rfl, ⟨trivial, rfl, trivial⟩, IvOk.text _ _ _ _⟩⟩
    have d1 : ¬ (c.toNat : Int) < 128 := by omega
    rw [if_neg c1] at hR
    have hu := c.toNat_lt
    by_cases c2 : c.toNat < 192
    · have d2 : ¬ (192 : Int) ≤ (c.toNat : Int) := by omega
      rw [if_pos c2] at hR
      simp only [push_cast, seval, reduceCtorEq, hb6, hal, hal', b0, d1, d2]
      refine CallsV.useM (m := decE bd s a (m + 1)) (Hf := []) (size_ok (k := 128) (by decide) hs he (by omega) (by rw [← hc]; omega) (by rw [← hc]; omega)) (by rw [hDe]; simp only [push_cast, seval, reduceCtorEq, hb6]) rfl trivial ?_
      rintro v N (⟨x, q, b, a', h2, rfl, rfl⟩ | ⟨n, b, z, h2, rfl, rfl⟩)
      · rw [h2] at hR
        refine ⟨⟨trivial, trivial, trivial⟩, rfl, fun hfr => ?_⟩
        unfold faE decE at hfr ⊢
        unfold faV
        simp only [push_cast, seval, reduceCtorEq, hb6] at hfr
        simp only [push_cast, seval, reduceCtorEq, hb6, hfr]
        exact ⟨_, ((List.nil_sublist _).cons_cons _).cons_cons _, .inl ⟨x, q, b, a', m + 1, _, _, _, _, _, hR, rfl, rfl⟩⟩
      obtain ⟨z1, z2, z3⟩ := sizeD_ok (by omega) he (by rw [← hc]; omega) (by rw [← hc]; omega) h2
      rw [h2] at hR
      dsimp only at hR
      unfold textD at hR
      refine ⟨⟨trivial, trivial⟩, rfl, fun hfr => ?_⟩
      clear hfr
      unfold decE
      obtain ⟨q, hq⟩ : ∃ q, q = b + n := ⟨_, rfl⟩
      have wq : IntKind.i64.wrap ((b : Int) + (n : Int)) = (q : Int) := by rw [show (b : Int) + (n : Int) = (q : Int) by omega]; exact IntWalk.i64_in _ (by omega)
      have q1 : b ≤ q := by omega
      have q1' : (b : Int) ≤ (q : Int) := by omega
      have q2 : q ≤ s.length := by omega
      have q2' : (q : Int) ≤ (s.length : Int) := by omega
      have q3 : q - b = n := by omega
      obtain ⟨t, ht⟩ : ∃ t, t = (s.drop b).take n := ⟨_, rfl⟩
      have tl : t.length = n := by rw [ht, List.length_take, List.length_drop]; omega
      rw [← ht] at hR
      have text : R = .ok (.mk false t []) (b + n) (m + 1) → ∃ H', List.Sublist H' [decE bd s q (m + 1), ⟨b6, 0, .cel 29, [.bool false, .string (bs t), .slice none 0 0]⟩] ∧ ItemK bd s R (.tuple #[.agg #[.bool false, .string (bs t), .slice none 0 0], .nilIface]) H' := fun hr =>
        ⟨[decE bd s q (m + 1)], (List.nil_sublist _).cons_cons _, .inr ⟨_, q, m + 1, .mk false t (.slice none 0 0) [], [], by rw [hr, hq], rfl, by simp only [Iv.it, Iv.its], rfl, ⟨trivial, rfl, trivial⟩, IvOk.text _ _ _ _⟩⟩
      by_cases n1 : n = 1
      · have e1 : ((n : Int) == 1) = true := by rw [n1]; rfl
        have t0 : 0 < t.length := by omega
        have t0' : (0 : Int) < (t.length : Int) := by omega
        have tb0 : (bs t).data[0]? = some (s.getD b 0) := by
          rw [nbs_idx t0]
          have := subS_succ (s := s) (a := b) (n - 1) (by omega)
          unfold subS at this
          rw [show n - 1 + 1 = n by omega, ← ht] at this
          congr 1
          simp only [this, List.getElem_cons_zero]
        by_cases c3 : (s.getD b 0).toNat < 128
        · have d3 : ((s.getD b 0).toNat : Int) < 128 := by omega
          rw [if_pos ⟨n1, c3⟩] at hR
          simp only [push_cast, seval, reduceCtorEq, hb6, wq, q1, q1', q2, q2', q3, ← ht, e1, t0, t0', tb0, d3]
          intro b7 hb7
          simp only [push_cast, seval, reduceCtorEq, hb6, hb7]
          exact ⟨[faE b7 11 a, decE bd s b (m + 1)], ((List.nil_sublist _).cons_cons _).cons_cons _, .inl ⟨11, a, b7, b, m + 1, _, _, _, _, _, hR, rfl, rfl⟩⟩
        · have d3 : ¬ ((s.getD b 0).toNat : Int) < 128 := by omega
          rw [if_neg (fun h => c3 h.2)] at hR
          simp only [push_cast, seval, reduceCtorEq, hb6, wq, q1, q1', q2, q2', q3, ← ht, e1, t0, t0', tb0, d3]
          exact text hR
      · have e1 : ((n : Int) == 1) = false := by rw [beq_eq_false_iff_ne]; omega
        rw [if_neg (fun h => n1 h.1)] at hR
        simp only [push_cast, seval, reduceCtorEq, hb6, wq, q1, q1', q2, q2', q3, ← ht, e1]
        exact text hR
    · have d2 : (192 : Int) ≤ (c.toNat : Int) := by omega
      rw [if_neg c2] at hR
      simp only [push_cast, seval, reduceCtorEq, hb6, hal, hal', b0, d1, d2]
      refine CallsV.useM (m := decE bd s a (m + 1)) (Hf := []) (size_ok (k := 192) (by decide) hs he (by omega) (by rw [← hc]; omega) (by rw [← hc]; omega)) (by rw [hDe]; simp only [push_cast, seval, reduceCtorEq, hb6]) rfl trivial ?_
      rintro v N (⟨x, q, b, a', h2, rfl, rfl⟩ | ⟨n, b, z, h2, rfl, rfl⟩)
      · rw [h2] at hR
        refine ⟨⟨trivial, trivial, trivial⟩, rfl, fun hfr => ?_⟩
        unfold faE decE at hfr ⊢
        unfold faV
        simp only [push_cast, seval, reduceCtorEq, hb6] at hfr
        simp only [push_cast, seval, reduceCtorEq, hb6, hfr]
        exact ⟨_, ((List.nil_sublist _).cons_cons _).cons_cons _, .inl ⟨x, q, b, a', m + 1, _, _, _, _, _, hR, rfl, rfl⟩⟩
      obtain ⟨z1, z2, z3⟩ := sizeD_ok (by omega) he (by rw [← hc]; omega) (by rw [← hc]; omega) h2
      rw [h2] at hR
      dsimp only at hR
      refine ⟨⟨trivial, trivial⟩, rfl, fun hfr => ?_⟩
      clear hfr
      unfold decE
      obtain ⟨q, hq⟩ : ∃ q, q = b + n := ⟨_, rfl⟩
      have wq : IntKind.i64.wrap ((b : Int) + (n : Int)) = (q : Int) := by rw [show (b : Int) + (n : Int) = (q : Int) by omega]; exact IntWalk.i64_in _ (by omega)
      rw [← hq] at hR
      simp only [push_cast, seval, reduceCtorEq, hb6, wq]
      refine CallsV.useM (m := decE bd s b (m + 1)) (Hf := []) (dlist_ok (d := d) hs (by omega) (by omega) (by omega) (by omega) (fun a m ha hm => ih (i + 1) (by omega) q a m (by omega) (by omega) hm)) (by rw [hDe]; simp only [push_cast, seval, reduceCtorEq, hb6]) rfl trivial ?_
      rw [← hR]
      rintro v N (⟨x, p, b', a', m', c0, c1, c2, n, c, hr, rfl, rfl⟩ | ⟨x, a', m', y, Nk, hr, rfl, rfl, rfl, ⟨hwk, hmk, hdk⟩, hyk⟩)
      · refine ⟨⟨trivial, trivial, trivial⟩, rfl, fun hfr => ?_⟩
        unfold faE decE at hfr ⊢
        unfold faV
        simp only [push_cast, seval, reduceCtorEq, hb6] at hfr
        simp only [push_cast, seval, reduceCtorEq, hb6, hfr]
        exact ⟨_, ((List.nil_sublist _).cons_cons _).cons_cons _, .inl ⟨x, p, b', a', m', _, _, _, _, _, hr, rfl, rfl⟩⟩
      · refine ⟨⟨trivial, hwk⟩, by rw [show decE bd s a' m' :: Nk = [decE bd s a' m'] ++ Nk from rfl, marks_append, hmk]; rfl, fun hfr => ?_⟩
        obtain ⟨yl, yb, yv, yks⟩ := y
        obtain ⟨py, cy, hsy, -⟩ := id hyk.li
        replace hsy : yv = .slice py yks.length cy := hsy
        subst hsy
        have hyv : (Iv.mk yl yb (.slice py yks.length cy) yks).v = .agg #[.bool yl, .string (bs yb), .slice py yks.length cy] := rfl
        obtain ⟨fd, fk⟩ := hfr
        unfold decE at fd ⊢
        simp only [push_cast, seval, reduceCtorEq, hb6] at fd
        have f6 : fresh b6 Nk := by
          have h := fk
          simp only [remE, hDe, if_true] at h
          exact (freshN_sym h).1
        have e1 : ∀ M : Hp, findE (Nk ++ M) b6 = findE M b6 := fun M => findE_behind1 f6
        have e2 : ∀ (M : Hp) (cs : List Value), updE (Nk ++ M) b6 cs = Nk ++ updE M b6 cs := fun M cs => updE_behind f6
        have e3 : ∀ cs, dropM (Nk ++ [⟨b6, 0, .cel 29, cs⟩]) = Nk ++ [⟨b6, 0, .cel 29, cs⟩] := fun cs => dropM_eq (by rw [marks_append, hmk]; rfl)
        simp only [push_cast, seval, reduceCtorEq, hb6, fd, hyv, e1, e2, e3]
        exact ⟨decE bd s a' m' :: Nk, (List.sublist_append_left _ _).cons_cons _, .inr ⟨_, a', m', _, Nk, hr, rfl, rfl, rfl, ⟨hwk, hmk, hdk⟩, hyk⟩⟩
end Go.Proofs.YtolmipnaheifcaaGreatDoor
set_option linter.unusedSimpArgs false
set_option linter.unusedVariables false
namespace Go.Ev
theorem drawN {P : Program} {r : Option Nat} {n : Nat} {G : Gam} (hG : GamOk P G) (hmix : P.follows .mixedOrders = true) {id : Nat} {ops : Array Oper} {K : Exit → Tm → Hp → Prop} {T : Tm} {H : Hp} (Tb : Tm) (val : Nat → Value) (st : (Nat → Bool) → Hp)
    (hb : backB ops = true) (hd : dstB n ops = true) (hTb : subT T Tb) (hTd : (Tb.all fun x => !(ops.toList.filterMap (·.dst)).contains x.1) = true) (h0 : H = st (fun _ => false))
    (step : ∀ (i : Nat) (o : Oper), ops[i]? = some o → ∀ (l : Nat → Bool) (T' : Tm), l i = false → (∀ j, (o.after.any fun e => Region.binds .any e && e.on == j) = true → l j = true ∧ ∀ s, (ops[j]?).bind (·.dst) = some s → getT T' s = some (val j)) →
      (∀ k j, ((ops[k]?).any fun p => p.after.any fun e => Region.binds .any e && e.on == j) = true → l k = true → l j = true) → subT T' Tb →
      evOp P G T' (st l) o.op (fun v H'' => (o.dst.isSome = true → v = val i) ∧ H'' = st (fun j => j == i || l j)))
    (fin : ∀ l, (∀ i, i < ops.size → l i = true) → K .normal (dstsL val Tb ops.toList 0) (st l)) : WpV P r n (.region id ops true) K T H := by
  refine drawI hG hmix (fun l T' H' => H' = st l ∧ (∀ i o, ops[i]? = some o → l i = true → (∀ e ∈ o.after, Region.binds .any e = true → l e.on = true) ∧ ∀ s, o.dst = some s → getT T' s = some (val i)) ∧ subT T' Tb) hb ⟨h0, (fun _ _ _ h => by cases h), hTb⟩ ?_ ?_
  · rintro l T' H' i o hap ⟨rfl, h1, h2⟩ ho hli hdeps
    refine ⟨_, _, List.Perm.refl _, rfl, step i o ho l T' hli (fun j hj => ?_) (fun k j hk hl => ?_) h2, ?_⟩
    · obtain ⟨e, he, heb⟩ := Array.any_eq_true'.1 hj
      simp only [Bool.and_eq_true, beq_iff_eq] at heb
      obtain ⟨hbb, rfl⟩ := heb
      have hlt := (backB_spec hb ho).2 e he hbb
      have hi := (Array.getElem?_eq_some_iff.1 ho).1
      have hp : ops[e.on]? = some ops[e.on] := Array.getElem?_eq_getElem (by omega)
      exact ⟨hdeps e he hbb, fun s hs => (h1 e.on _ hp (hdeps e he hbb)).2 s (by rw [hp] at hs; exact hs)⟩
    · cases hp : ops[k]? with
      | none => rw [hp] at hk; cases hk
      | some p =>
        rw [hp] at hk
        obtain ⟨e, he, heb⟩ := Array.any_eq_true'.1 hk
        simp only [Bool.and_eq_true, beq_iff_eq] at heb
        obtain ⟨hbb, rfl⟩ := heb
        exact (h1 k p hp hl).1 e he hbb
    · rintro v H'' ⟨hv, rfl⟩
      have hni : ∀ j, l j = true → j ≠ i := fun j hj h => by rw [h, hli] at hj; cases hj
      refine ⟨rfl, fun j p hp hj => ?_, subT_of fun k u hm => ?_⟩
      · by_cases hji : j = i
        · subst hji
          obtain rfl : o = p := Option.some.inj (ho.symm.trans hp)
          refine ⟨fun e he hbb => by show (e.on == j || l e.on) = true; rw [hdeps e he hbb, Bool.or_true], fun s hs => ?_⟩
          rw [hs, getT_put (dstB_spec hd ho hs).1, if_pos rfl, hv (by rw [hs]; rfl)]
        · have hjl : l j = true := by simpa [hji] using hj
          obtain ⟨g1, g4⟩ := h1 j p hp hjl
          refine ⟨fun e he hbb => by show (e.on == i || l e.on) = true; rw [g1 e he hbb, Bool.or_true], fun s hs => ?_⟩
          cases hod : o.dst with
          | none => exact g4 s hs
          | some s' =>
            rw [getT_put (dstB_spec hd ho hod).1, if_neg (fun hss => hji ((dstB_spec hd hp hs).2 i o ho (by rw [hod, hss])))]
            exact g4 s hs
      · have h9 := subT_mem h2 hm
        cases hod : o.dst with
        | none => exact h9
        | some s' =>
          rw [getT_put (dstB_spec hd ho hod).1, if_neg (fun hks => ?_)]
          · exact h9
          · have := List.all_eq_true.1 hTd (k, u) hm
            simp only [Bool.not_eq_true', List.contains_eq_mem, decide_eq_false_iff_not] at this
            exact this (List.mem_filterMap.2 ⟨o, List.mem_of_getElem? (by simpa using ho), by rw [hod, hks]⟩)
  · rintro l T' H' hall hap ⟨rfl, h1, h2⟩
    refine ⟨_, _, List.Perm.refl _, rfl, subT_of fun k u hm => ?_, fin l hall⟩
    rcases dstsL_mem hm with h | ⟨j, o, ho, hs, rfl⟩
    · exact subT_mem h2 h
    · have ho' : ops[j]? = some o := by simpa using ho
      rw [Nat.zero_add]
      exact (h1 j o ho' (hall j (Array.getElem?_eq_some_iff.1 ho').1)).2 k hs
end Go.Ev
