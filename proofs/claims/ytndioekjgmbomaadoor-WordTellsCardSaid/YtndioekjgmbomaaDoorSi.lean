/- Si: the document's FromBytes. -/
import Derived.Test.YtndioekjgmbomaaDoorSc
import Derived.Test.YtndioekjgmbomaaDoorWh
set_option linter.unusedSimpArgs false
set_option linter.unusedVariables false
namespace Go.Ev
/-- the number of bytes, the lowest one first -/
def beN : List UInt8 → Nat
  | [] => 0
  | x :: r => x.toNat + 256 * beN r
theorem beN_lt : ∀ (r : List UInt8), beN r < 256 ^ r.length
  | [] => by simp [beN]
  | x :: r => by
    have := beN_lt r
    have hx := x.toNat_lt
    simp only [beN, List.length_cons, Nat.pow_succ]
    omega
theorem digN_beN : ∀ (r : List UInt8) (i : Nat) (h : i < r.length), digN (beN r) i = (r[i]).toNat
  | [], i, h => absurd h (Nat.not_lt_zero _)
  | x :: r, 0, _ => by
    have hx := x.toNat_lt
    rw [digN_eq]
    simp only [beN, Nat.pow_zero, Nat.div_one, List.getElem_cons_zero]
    omega
  | x :: r, i + 1, h => by
    have hx := x.toNat_lt
    have := digN_beN r i (by simpa using h)
    rw [digN_eq] at this ⊢
    rw [Nat.pow_succ, Nat.mul_comm, ← Nat.div_div_eq_div_mul, List.getElem_cons_succ, ← this]
    congr 2
    simp only [beN]
    omega
/-- the word of bytes -/
noncomputable def frombW : List UInt8 → W := hid fun l => W.of (beN (l.reverse.take 32))
theorem frombW_eq (l : List UInt8) : frombW l = W.of (beN (l.reverse.take 32)) := by unfold frombW; rw [hid_eq]
noncomputable def frombG : List Value → Option Value
  | [.string b] => some (frombW b.data.toList).v
  | _ => none
attribute [push_cast] frombG
end Go.Ev
namespace Go.Proofs.YtndioekjgmbomaaDoor
open Go Go.Ev Go.Proofs
set_option maxRecDepth 100000
set_option maxHeartbeats 4000000
theorem fromDigits_nil : CallsV Tryd.prog 35 [.slice none 0 0] [] (Ret0 (W.of 0).v) := by
  have hz : W.of 0 = W.zero := by
    refine W.num_inj ?_
    rw [W.num_of]; rfl
  rw [hz]
  refine callsO (noG_ok _) Tryd.mix Tryd.pl35 Tryd.func35 rfl Tryd.ntmps35 Tryd.results35 rfl (by first | rfl | assumption) (Nat.le_of_ble_eq_true rfl) (by kernel_rfl) ?_
  simp only [push_cast, Nat.reduceAdd, Nat.reduceSub, Nat.reduceMul, Nat.reduceLT, Nat.reduceLeDiff, Nat.reduceEqDiff, Nat.reduceMod, Nat.reduceDiv, Int.reduceAdd, Int.reduceSub, Int.reduceMul, Int.reduceLT, Int.reduceLE, Int.reduceEq, Int.reduceNeg, Int.reduceToNat, reduceIte, reduceCtorEq]
  intro b2 b3 hb3
  refine unrollO (noG_ok _) (pl := Tryd.pl35) Tryd.mix 1 (by kernel_rfl) ?_
  simp only [push_cast, Nat.reduceAdd, Nat.reduceSub, Nat.reduceMul, Nat.reduceLT, Nat.reduceLeDiff, Nat.reduceEqDiff, Nat.reduceMod, Nat.reduceDiv, Int.reduceAdd, Int.reduceSub, Int.reduceMul, Int.reduceLT, Int.reduceLE, Int.reduceEq, Int.reduceNeg, Int.reduceToNat, reduceIte, reduceCtorEq, hb3]
  rfl
theorem refFromBytes (b : ByteArray) (hlb : b.size < 4611686018427387904) : CallsV Tryd.prog 31 [.string b] [] (Ret0 (frombW b.data.toList).v) := by
  obtain ⟨l, rfl⟩ := bs_of b
  rw [bs_size] at hlb
  rw [bs_data]
  obtain ⟨R, hR⟩ : ∃ R, R = frombW l := ⟨_, rfl⟩
  rw [← hR]
  obtain ⟨rv, hrv⟩ : ∃ rv, rv = l.reverse.take 32 := ⟨_, rfl⟩
  have hrl : rv.length = min 32 l.length := by rw [hrv, List.length_take, List.length_reverse]
  have hRe : R = W.of (beN rv) := by rw [hR, frombW_eq, hrv]
  have hat : ∀ i (h : i < rv.length) (h2 : l.length - 1 - i < l.length), digN (beN rv) i = (l[l.length - 1 - i]).toNat := fun i h h2 => by
    rw [digN_beN rv i h]
    congr 1
    simp only [hrv, List.getElem_take, List.getElem_reverse]
  refine callsO (noG_ok _) Tryd.mix Tryd.pl31 Tryd.func31 rfl Tryd.ntmps31 Tryd.results31 rfl (by first | rfl | assumption) (Nat.le_of_ble_eq_true rfl) (by kernel_rfl) ?_
  simp only [push_cast, Nat.reduceAdd, Nat.reduceSub, Nat.reduceMul, Nat.reduceLT, Nat.reduceLeDiff, Nat.reduceEqDiff, Nat.reduceMod, Nat.reduceDiv, Int.reduceAdd, Int.reduceSub, Int.reduceMul, Int.reduceLT, Int.reduceLE, Int.reduceEq, Int.reduceNeg, Int.reduceToNat, reduceIte, reduceCtorEq]
  intro b2
  refine loopO (noG_ok _) (pl := Tryd.pl31) Tryd.mix (X := Nat × Value × Hp)
    (fun s => ([(0, .string (bs l)), (2, .pointer (some ⟨b2, 0, none⟩)), (3, s.2.1), (4, .int .i64 ((l.length : Int) - 1 - (s.1 : Int)))], s.2.2 ++ [⟨b2, 0, .cel 24, [.int .u64 0, .int .u64 0, .int .u64 0, .int .u64 0]⟩]))
    (fun s => s.1 ≤ rv.length ∧ OutC 3 1 (zs (digs (beN rv) s.1)) s.1 s.2.1 s.2.2 ∧ freshN s.2.2 [⟨b2, 0, .cel 24, [.int .u64 0, .int .u64 0, .int .u64 0, .int .u64 0]⟩]) (fun s => rv.length - s.1) (0, .slice none 0 0, []) ?_ ?_ (by kernel_rfl) ?_
  · exact ⟨Nat.zero_le _, .nil _ _, trivial⟩
  · simp only [push_cast, Nat.reduceAdd, Nat.reduceSub, Nat.reduceMul, Nat.reduceLT, Nat.reduceLeDiff, Nat.reduceEqDiff, Nat.reduceMod, Nat.reduceDiv, Int.reduceAdd, Int.reduceSub, Int.reduceMul, Int.reduceLT, Int.reduceLE, Int.reduceEq, Int.reduceNeg, Int.reduceToNat, reduceIte, reduceCtorEq, wrap_i64' (show -9223372036854775808 ≤ (l.length : Int) - 1 ∧ (l.length : Int) - 1 ≤ 9223372036854775807 by omega), Int.sub_zero]
  · rintro ⟨j, vo, No⟩ ⟨hj, ho, hf⟩
    dsimp only at hj ho hf ⊢
    have fin : ∀ (K' : Value → Hp → Prop), j = rv.length → K' R.v (No ++ [⟨b2, 0, .cel 24, [.int .u64 0, .int .u64 0, .int .u64 0, .int .u64 0]⟩]) → CallsV Tryd.prog 35 [vo] (No ++ [⟨b2, 0, .cel 24, [.int .u64 0, .int .u64 0, .int .u64 0, .int .u64 0]⟩]) K' := fun K' hjr hk => by
      rcases Nat.eq_zero_or_pos j with h0 | h0
      · have hv0 : rv = [] := List.eq_nil_of_length_eq_zero (by omega)
        rcases ho with ⟨_, _, rfl, rfl⟩ | ⟨g, c, hlt, _⟩
        · refine (fromDigits_nil).pure trivial ?_
          rw [hRe, hv0] at hk
          exact hk
        · omega
      · obtain ⟨bz, cz, rfl, hcz, hzl, rfl⟩ := ho.pos h0
        have hlt := beN_lt rv
        rw [← hjr] at hlt
        have hz : (zs (digs (beN rv) j)).length = j := by rw [zs_len, digs_len]
        have htk : List.take j (zs (digs (beN rv) j)) = zs (digs (beN rv) j) := List.take_of_length_le (by rw [hz]; exact Nat.le_refl _)
        refine (fromDigits_ok (beN rv) j bz cz (by omega) (.inr hlt)).pure ?_ (by rw [← hRe]; exact hk)
        simp only [push_cast, Nat.reduceAdd, Nat.reduceSub, Nat.reduceMul, Nat.reduceLT, Nat.reduceLeDiff, Nat.reduceEqDiff, Nat.reduceMod, Nat.reduceDiv, Int.reduceAdd, Int.reduceSub, Int.reduceMul, Int.reduceLT, Int.reduceLE, Int.reduceEq, Int.reduceNeg, Int.reduceToNat, reduceIte, reduceCtorEq, hz, htk]
    have f0 : findE [⟨b2, 0, .cel 24, [.int .u64 0, .int .u64 0, .int .u64 0, .int .u64 0]⟩] b2 = some ⟨b2, 0, .cel 24, [.int .u64 0, .int .u64 0, .int .u64 0, .int .u64 0]⟩ := by simp only [push_cast, Nat.reduceAdd, Nat.reduceSub, Nat.reduceMul, Nat.reduceLT, Nat.reduceLeDiff, Nat.reduceEqDiff, Nat.reduceMod, Nat.reduceDiv, Int.reduceAdd, Int.reduceSub, Int.reduceMul, Int.reduceLT, Int.reduceLE, Int.reduceEq, Int.reduceNeg, Int.reduceToNat, reduceIte, reduceCtorEq]
    have fb : findE (No ++ [⟨b2, 0, .cel 24, [.int .u64 0, .int .u64 0, .int .u64 0, .int .u64 0]⟩]) b2 = some ⟨b2, 0, .cel 24, [.int .u64 0, .int .u64 0, .int .u64 0, .int .u64 0]⟩ := by rw [findE_freshN hf f0]; exact f0
    have ub : ∀ cs, updE (No ++ [⟨b2, 0, .cel 24, [.int .u64 0, .int .u64 0, .int .u64 0, .int .u64 0]⟩]) b2 cs = No ++ [⟨b2, 0, .cel 24, cs⟩] := fun cs => updE_freshN hf cs
    have fr : ∀ cs, findE (No ++ [⟨b2, 0, .cel 24, cs⟩]) b2 = some ⟨b2, 0, .cel 24, cs⟩ := fun cs => by
      have hf3 : freshN No [⟨b2, 0, .cel 24, cs⟩] := freshN_blk (by rfl) hf
      rw [findE_freshN hf3 (b := b2) (e := ⟨b2, 0, .cel 24, cs⟩) (by simp [findE])]; simp [findE]
    have mk : ∀ cs, dropM (No ++ [⟨b2, 0, .cel 24, cs⟩]) = No ++ [⟨b2, 0, .cel 24, cs⟩] := fun cs => dropM_eq (by rw [marks_append, ho.wr.2]; rfl)
    obtain ⟨pa, ca, rfl⟩ := ho.slice
    rcases Nat.lt_or_ge j rv.length with hlt | hge
    · obtain ⟨i, hi⟩ : ∃ i, i = l.length - 1 - j := ⟨_, rfl⟩
      have ei : (l.length : Int) - 1 - (j : Int) = (i : Int) := by omega
      have i0 : (0 : Int) ≤ (i : Int) := by omega
      have i1 : (i : Int) < (l.length : Int) := by omega
      have il : i < l.length := by omega
      have j32 : (j : Int) < 32 := by omega
      have hd := hat j hlt (by omega)
      have hg : (bs l).data[i]? = some l[i] := by
        rw [← Array.getElem?_toList, bs_data, List.getElem?_eq_getElem il]
      have hx : (l[i]).toNat < 256 := (l[i]).toNat_lt
      have hdi : digN (beN rv) j = (l[i]).toNat := by rw [hd]; simp only [hi]
      simp only [push_cast, Nat.reduceAdd, Nat.reduceSub, Nat.reduceMul, Nat.reduceLT, Nat.reduceLeDiff, Nat.reduceEqDiff, Nat.reduceMod, Nat.reduceDiv, Int.reduceAdd, Int.reduceSub, Int.reduceMul, Int.reduceLT, Int.reduceLE, Int.reduceEq, Int.reduceNeg, Int.reduceToNat, reduceIte, reduceCtorEq, ei, i0, i1, j32, hg, wrap_i64' (show -9223372036854775808 ≤ ((l[i]).toNat : Int) ∧ ((l[i]).toNat : Int) ≤ 9223372036854775807 by omega)]
      intro b10 hb10
      refine append_out1 (e := 3) (sz := 1) (by_ := 8) (n := j) (m := 1) (ys := [.int .i64 ((l[i]).toNat : Int)]) ho hb10 (by simp only [push_cast, Nat.reduceAdd, Nat.reduceSub, Nat.reduceMul, Nat.reduceLT, Nat.reduceLeDiff, Nat.reduceEqDiff, Nat.reduceMod, Nat.reduceDiv, Int.reduceAdd, Int.reduceSub, Int.reduceMul, Int.reduceLT, Int.reduceLE, Int.reduceEq, Int.reduceNeg, Int.reduceToNat, reduceIte, reduceCtorEq]) (by simp only [push_cast, Nat.reduceAdd, Nat.reduceSub, Nat.reduceMul, Nat.reduceLT, Nat.reduceLeDiff, Nat.reduceEqDiff, Nat.reduceMod, Nat.reduceDiv, Int.reduceAdd, Int.reduceSub, Int.reduceMul, Int.reduceLT, Int.reduceLE, Int.reduceEq, Int.reduceNeg, Int.reduceToNat, reduceIte, reduceCtorEq]) rfl rfl (by unfold two47; omega) fun v' N' ho' hf' => ?_
      simp only [push_cast, Nat.reduceAdd, Nat.reduceSub, Nat.reduceMul, Nat.reduceLT, Nat.reduceLeDiff, Nat.reduceEqDiff, Nat.reduceMod, Nat.reduceDiv, Int.reduceAdd, Int.reduceSub, Int.reduceMul, Int.reduceLT, Int.reduceLE, Int.reduceEq, Int.reduceNeg, Int.reduceToNat, reduceIte, reduceCtorEq, wrap_i64' (show -9223372036854775808 ≤ (i : Int) - 1 ∧ (i : Int) - 1 ≤ 9223372036854775807 by omega)]
      refine ⟨(j + 1, v', N'), ⟨hlt, ?_, freshN_cons hf'⟩, by dsimp only; omega, ⟨rfl, ?_⟩, subH_pre (subH_cons (fresh_app hb10)) _, ?_⟩
      · dsimp only
        rw [digs_succ, zs_app, hdi]
        exact ho'
      · dsimp only
        congr 1
        omega
      · simp only [marks_append, marksOf, ho.wr.2, ho'.wr.2]
    · obtain rfl : j = rv.length := by omega
      rcases Nat.lt_or_ge 32 l.length with h32 | h32
      · have e1 : ((rv.length : Nat) : Int) = 32 := by omega
        have e2 : (0 : Int) ≤ (l.length : Int) - 1 - 32 := by omega
        simp only [push_cast, Nat.reduceAdd, Nat.reduceSub, Nat.reduceMul, Nat.reduceLT, Nat.reduceLeDiff, Nat.reduceEqDiff, Nat.reduceMod, Nat.reduceDiv, Int.reduceAdd, Int.reduceSub, Int.reduceMul, Int.reduceLT, Int.reduceLE, Int.reduceEq, Int.reduceNeg, Int.reduceToNat, reduceIte, reduceCtorEq, e1, e2]
        refine fin _ rfl ?_
        simp only [push_cast, Nat.reduceAdd, Nat.reduceSub, Nat.reduceMul, Nat.reduceLT, Nat.reduceLeDiff, Nat.reduceEqDiff, Nat.reduceMod, Nat.reduceDiv, Int.reduceAdd, Int.reduceSub, Int.reduceMul, Int.reduceLT, Int.reduceLE, Int.reduceEq, Int.reduceNeg, Int.reduceToNat, reduceIte, reduceCtorEq, fb, ub, fr, mk]
        done
      · have e2 : ¬ (0 : Int) ≤ (l.length : Int) - 1 - (rv.length : Int) := by omega
        simp only [push_cast, Nat.reduceAdd, Nat.reduceSub, Nat.reduceMul, Nat.reduceLT, Nat.reduceLeDiff, Nat.reduceEqDiff, Nat.reduceMod, Nat.reduceDiv, Int.reduceAdd, Int.reduceSub, Int.reduceMul, Int.reduceLT, Int.reduceLE, Int.reduceEq, Int.reduceNeg, Int.reduceToNat, reduceIte, reduceCtorEq, e2]
        refine fin _ rfl ?_
        simp only [push_cast, Nat.reduceAdd, Nat.reduceSub, Nat.reduceMul, Nat.reduceLT, Nat.reduceLeDiff, Nat.reduceEqDiff, Nat.reduceMod, Nat.reduceDiv, Int.reduceAdd, Int.reduceSub, Int.reduceMul, Int.reduceLT, Int.reduceLE, Int.reduceEq, Int.reduceNeg, Int.reduceToNat, reduceIte, reduceCtorEq, fb, ub, fr, mk]
        done
end Go.Proofs.YtndioekjgmbomaaDoor
