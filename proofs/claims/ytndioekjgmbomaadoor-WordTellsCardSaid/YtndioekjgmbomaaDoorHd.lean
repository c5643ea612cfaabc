/- Hd: the program's word.shifted and word.Parse. -/
import Derived.Test.YtndioekjgmbomaaDoorHc
import Derived.Test.YtndioekjgmbomaaDoorWd
set_option linter.unusedSimpArgs false
set_option linter.unusedVariables false
namespace Go.Ev
noncomputable def fitB : Nat → Bool := hid fun n => decide (n < 115792089237316195423570985008687907853269984665640564039457584007913129639936)
theorem fitB_eq (n : Nat) : fitB n = decide (n < 115792089237316195423570985008687907853269984665640564039457584007913129639936) := by unfold fitB; rw [hid_eq]
noncomputable def shG : List Value → Option Value
  | [x, .int .u64 b, .int .u64 m] => if b64 b && b64 m then (wOf x).bind fun w => some (.tuple #[(W.of (w.num * b.toNat + m.toNat)).v, .bool (fitB (w.num * b.toNat + m.toNat))]) else none
  | _ => none
attribute [push_cast] shG
theorem sh_lo (x b m : Nat) : addLo (mulLo x b) m 0 = macLo x b m 0 := by simp only [addLo_eq, mulLo_eq, macLo_eq]; omega
theorem sh_hi {x b m : Nat} (hx : x < 18446744073709551616) (hb : b < 18446744073709551616) (hm : m < 18446744073709551616) :
    IntKind.u64.wrap ((mulHi x b : Nat) + (addC (mulLo x b) m 0 : Nat)) = ((macHi x b m 0 : Nat) : Int) := by
  have h2 := mul_le hx hb
  have e : mulHi x b + addC (mulLo x b) m 0 = macHi x b m 0 := by
    simp only [mulHi_eq, mulLo_eq, addC_eq, macHi_eq hx hb hm (by decide : 0 < 18446744073709551616)]
    split <;> omega
  have := macHi_lt x b m 0
  rw [← Int.natCast_add, e]
  exact wrap_u64' (by omega)
theorem sh_key {xa xb xc xd b m l0 l1 l2 l3 c0 c1 c2 c3 : Nat} (e0 : l0 + 18446744073709551616 * c0 = xa * b + m + 0) (e1 : l1 + 18446744073709551616 * c1 = xb * b + c0 + 0) (e2 : l2 + 18446744073709551616 * c2 = xc * b + c1 + 0) (e3 : l3 + 18446744073709551616 * c3 = xd * b + c2 + 0) :
    (l0 + 18446744073709551616 * (l1 + 18446744073709551616 * (l2 + 18446744073709551616 * l3))) + 115792089237316195423570985008687907853269984665640564039457584007913129639936 * c3 = (xa + 18446744073709551616 * (xb + 18446744073709551616 * (xc + 18446744073709551616 * xd))) * b + m := by
  rw [Nat.mul_comm _ b, mulY, Nat.mul_comm b xa, Nat.mul_comm b xb, Nat.mul_comm b xc, Nat.mul_comm b xd]
  generalize xa * b = pa at *; generalize xb * b = pb at *; generalize xc * b = pc at *; generalize xd * b = pd at *
  omega
theorem sh_fin {L c N : Nat} (h1 : L < 115792089237316195423570985008687907853269984665640564039457584007913129639936) (h : L + 115792089237316195423570985008687907853269984665640564039457584007913129639936 * c = N) : L = N % 115792089237316195423570985008687907853269984665640564039457584007913129639936 ∧ fitB N = ((c : Int) == 0) := by
  refine ⟨by omega, ?_⟩
  rw [fitB_eq, Bool.eq_iff_iff, decide_eq_true_eq, beq_iff_eq]
  omega
def oxS : ByteArray := { data := #[48, 120] }
theorem oxS_mk : ({ data := #[48, 120] } : ByteArray) = oxS := rfl
def ox10 : ByteArray := hexS.extract 0 10
def ox16 : ByteArray := hexS.extract 0 16
theorem ox10_mk : hexS.extract 0 10 = ox10 := rfl
theorem ox16_mk : hexS.extract 0 16 = ox16 := rfl
attribute [push_cast] oxS_mk ox10_mk ox16_mk
theorem pre_ox (l : List UInt8) : preB (bs l) oxS = decide (l.take 2 = [48, 120]) := by rw [preB_eq, bs_data]; rfl
noncomputable def digI (base : Nat) (c : UInt8) : Int := match digV base c with
  | some d => (d : Int)
  | none => -1
theorem idx10N : ∀ x < 256, Lib.indexByte ox10.data.toList (x : Nat).toUInt8 = (match digV 10 (x : Nat).toUInt8 with | some d => (d : Int) | none => -1) := by decide +kernel
theorem idx16N : ∀ x < 256, Lib.indexByte ox16.data.toList (x : Nat).toUInt8 = (match digV 16 (x : Nat).toUInt8 with | some d => (d : Int) | none => -1) := by decide +kernel
theorem toU8_toNat (c : UInt8) : (c.toNat).toUInt8 = c := by
  refine UInt8.toNat_inj.1 ?_
  simp
theorem idx10 (c : UInt8) : idxN ox10 (c.toNat : Int) = digI 10 c := by
  have h := idx10N c.toNat c.toNat_lt
  rw [toU8_toNat] at h
  rw [idxN_eq]
  show Lib.indexByte _ ((c.toNat : Nat)).toUInt8 = _
  rw [toU8_toNat]; exact h
theorem idx16 (c : UInt8) : idxN ox16 (c.toNat : Int) = digI 16 c := by
  have h := idx16N c.toNat c.toNat_lt
  rw [toU8_toNat] at h
  rw [idxN_eq]
  show Lib.indexByte _ ((c.toNat : Nat)).toUInt8 = _
  rw [toU8_toNat]; exact h
theorem valD_step {base : Nat} {d : List UInt8} {i a : Nat} (hi : i < d.length) (h : valD base (d.take i) 0 = some a) : valD base d 0 = (digV base d[i]).bind fun k => valD base (d.drop (i + 1)) (a * base + k) := by
  have e : d = d.take i ++ d[i] :: d.drop (i + 1) := by rw [← List.drop_eq_getElem_cons hi, List.take_append_drop]
  conv => lhs; rw [e, valD_app, h]
  rfl
theorem valD_next {base : Nat} {d : List UInt8} {i a k : Nat} (hi : i < d.length) (h : valD base (d.take i) 0 = some a) (hk : digV base d[i] = some k) : valD base (d.take (i + 1)) 0 = some (a * base + k) := by
  rw [List.take_succ_eq_append_getElem hi, valD_app, h]
  show (digV base d[i]).bind (fun k => some (a * base + k)) = _
  rw [hk]; rfl
theorem parsB_bad {base : Nat} {d : List UInt8} (h : valD base d 0 = none) : parsB base d = (W.zero, 3) := by
  unfold parsB
  rw [h]
  split <;> rfl
theorem parsB_big {base : Nat} {d : List UInt8} (h : ∀ n, valD base d 0 = some n → 2 ^ 256 ≤ n) : parsB base d = (W.zero, 3) := by
  unfold parsB
  split
  · rfl
  · cases hv : valD base d 0 with
    | none => rfl
    | some n => dsimp only; rw [if_neg (by have := h n hv; omega)]
theorem parsB_ok {base : Nat} {d : List UInt8} {n : Nat} (hc : ¬ (d = [] ∨ (d.head? = some 48 ∧ 1 < d.length))) (h : valD base d 0 = some n) (hn : n < 2 ^ 256) : parsB base d = (W.of n, 0) := by
  unfold parsB
  rw [if_neg hc, h]
  dsimp only
  rw [if_pos hn]
noncomputable def parseP (b : ByteArray) : W × Int := parsW b.data.toList
noncomputable def pzB : Nat → Bool := hid fun n => decide (n < 4611686018427387904)
theorem pzB_eq (n : Nat) : pzB n = decide (n < 4611686018427387904) := by unfold pzB; rw [hid_eq]
noncomputable def parseG : List Value → Option Value
  | [.string b] => if pzB b.size then some (.tuple #[(parseP b).1.v, .int .i64 (parseP b).2]) else none
  | _ => none
attribute [push_cast] parseG
theorem wz_agg : Value.agg #[.int .u64 0, .int .u64 0, .int .u64 0, .int .u64 0] = W.zero.v := rfl
theorem wz_cells : [Value.int .u64 0, .int .u64 0, .int .u64 0, .int .u64 0] = W.zero.cells := rfl
end Go.Ev
namespace Go.Proofs.YtndioekjgmbomaaDoor
open Go Go.Ev Go.Proofs
set_option maxRecDepth 100000
set_option maxHeartbeats 4000000
noncomputable def gHf : Gam := (addG 48 idxG (addG 47 cutG gM))
attribute [push_cast] gHf
theorem gHf_ok : GamOk Tryd.prog gHf := (addG_ok tIdx (addG_ok tCut gM_ok))
theorem wordShifted (x : W) (b m : Nat) (hb : b < 18446744073709551616) (hm : m < 18446744073709551616) : CallsV Tryd.prog 49 [x.v, .int .u64 b, .int .u64 m] [] (Ret0 (.tuple #[(W.of (x.num * b + m)).v, .bool (fitB (x.num * b + m))])) := by
  have ha := x.ha; have hb' := x.hb; have hc := x.hc; have hd := x.hd
  have g1 := b64_of hb; have g2 := b64_of hm
  have z : 0 < 18446744073709551616 := by decide
  have k0 := macHi_lt x.a b m 0
  have k1 := macHi_lt x.b b (macHi x.a b m 0) 0
  have k2 := macHi_lt x.c b (macHi x.b b (macHi x.a b m 0) 0) 0
  have k3 := macHi_lt x.d b (macHi x.c b (macHi x.b b (macHi x.a b m 0) 0) 0) 0
  have h0 := sh_hi ha hb hm
  have h1 := sh_hi hb' hb k0
  have h2 := sh_hi hc hb k1
  have h3 := sh_hi hd hb k2
  have key := sh_key (mac_eq ha hb hm z) (mac_eq hb' hb k0 z) (mac_eq hc hb k1 z) (mac_eq hd hb k2 z)
  obtain ⟨f1, f2⟩ := sh_fin (W.num_lt ⟨macLo x.a b m 0, macLo x.b b (macHi x.a b m 0) 0, macLo x.c b (macHi x.b b (macHi x.a b m 0) 0) 0, macLo x.d b (macHi x.c b (macHi x.b b (macHi x.a b m 0) 0) 0) 0, macLo_lt _ _ _ _, macLo_lt _ _ _ _, macLo_lt _ _ _ _, macLo_lt _ _ _ _⟩) key
  have hW := W.eq_of (n := x.num * b + m) f1
  replace f2 : fitB (x.num * b + m) = _ := f2
  rw [f2, ← hW]
  refine callsO gHf_ok Tryd.mix Tryd.pl49 Tryd.func49 rfl Tryd.ntmps49 Tryd.results49 rfl (by first | rfl | assumption) (Nat.le_of_ble_eq_true rfl) (by kernel_rfl) ?_
  simp only [push_cast, Nat.reduceAdd, Nat.reduceSub, Nat.reduceMul, Nat.reduceLT, Nat.reduceLeDiff, Nat.reduceEqDiff, Nat.reduceMod, Nat.reduceDiv, Int.reduceAdd, Int.reduceSub, Int.reduceMul, Int.reduceLT, Int.reduceLE, Int.reduceEq, Int.reduceNeg, Int.reduceToNat, reduceIte, reduceCtorEq]
  intro b3 b6 hb6
  refine unrollO gHf_ok (pl := Tryd.pl49) Tryd.mix 5 (by kernel_rfl) ?_
  have ex : x.cells = [.int .u64 x.a, .int .u64 x.b, .int .u64 x.c, .int .u64 x.d] := rfl
  simp only [push_cast, Nat.reduceAdd, Nat.reduceSub, Nat.reduceMul, Nat.reduceLT, Nat.reduceLeDiff, Nat.reduceEqDiff, Nat.reduceMod, Nat.reduceDiv, Int.reduceAdd, Int.reduceSub, Int.reduceMul, Int.reduceLT, Int.reduceLE, Int.reduceEq, Int.reduceNeg, Int.reduceToNat, reduceIte, reduceCtorEq, hb6, ex, g1, g2, sh_lo, h0, h1, h2, h3, hb, hm]
  rfl
theorem shG_ok (args : List Value) (v : Value) (h : shG args = some v) : CallsV Tryd.prog 49 args [] (Ret0 v) := by
  unfold shG at h
  split at h
  · split at h
    · rename_i x b m hh
      simp only [Bool.and_eq_true, b64_eq, decide_eq_true_eq] at hh
      cases hx : wOf x with
      | none => simp [hx] at h
      | some a =>
        simp only [hx, Option.bind_some, Option.some.injEq] at h
        rw [wOf_some hx, ← h]
        have := wordShifted a b.toNat m.toNat (by omega) (by omega)
        rw [show ((b.toNat : Nat) : Int) = b by omega, show ((m.toNat : Nat) : Int) = m by omega] at this
        exact this
    · cases h
  · cases h
noncomputable def gHg : Gam := (addG 49 shG gHf)
attribute [push_cast] gHg
theorem gHg_ok : GamOk Tryd.prog gHg := (addG_ok shG_ok gHf_ok)
theorem wordParse (b : ByteArray) (hb : b.size < 4611686018427387904) : CallsV Tryd.prog 28 [.string b] [] (Ret0 (.tuple #[(parseP b).1.v, .int .i64 (parseP b).2])) := by
  obtain ⟨l, rfl⟩ := bs_of b
  rw [bs_size] at hb
  unfold parseP
  rw [bs_data]
  have hpre := pre_ox l
  have hpars := parsW_eq l
  obtain ⟨R, hR⟩ : ∃ R, R = parsW l := ⟨_, rfl⟩
  rw [← hR] at hpars ⊢
  have e1 : (bs []).toList = [] := bs_toList []
  refine callsO gHg_ok Tryd.mix (fun i => if i = 1 then [(0, 9)] else Tryd.pl28 i) Tryd.func28 rfl Tryd.ntmps28 Tryd.results28 rfl (by first | rfl | assumption) (Nat.le_of_ble_eq_true rfl) (by kernel_rfl) ?_
  simp only [push_cast, Nat.reduceAdd, Nat.reduceSub, Nat.reduceMul, Nat.reduceLT, Nat.reduceLeDiff, Nat.reduceEqDiff, Nat.reduceMod, Nat.reduceDiv, Int.reduceAdd, Int.reduceSub, Int.reduceMul, Int.reduceLT, Int.reduceLE, Int.reduceEq, Int.reduceNeg, Int.reduceToNat, reduceIte, reduceCtorEq]
  intro b2
  refine regO gHg_ok ?_
  cases hp : preB (bs l) oxS
  · obtain ⟨d, hd⟩ : ∃ d, d = l := ⟨_, rfl⟩
    have hcut : cutP (bs l) oxS = bs d := by unfold cutP; rw [hp, hd]; rfl
    have hp' := hp
    rw [hpre, decide_eq_false_iff_not] at hp
    rw [if_neg hp, ← hd] at hpars
    have hdl : d.length ≤ l.length := by rw [hd]; exact Nat.le_refl _
    have hb10 : 10 = 10 ∨ 10 = 16 := by decide
    clear hd hpre
    by_cases hc : d = [] ∨ (d.head? = some 48 ∧ 1 < d.length)
    · have hR3 : R = (W.zero, 3) := by rw [hpars]; unfold parsB; rw [if_pos hc]
      cases d with
      | nil =>
        have e2 : (([] : List UInt8) == []) = true := rfl
        simp only [push_cast, Nat.reduceAdd, Nat.reduceSub, Nat.reduceMul, Nat.reduceLT, Nat.reduceLeDiff, Nat.reduceEqDiff, Nat.reduceMod, Nat.reduceDiv, Int.reduceAdd, Int.reduceSub, Int.reduceMul, Int.reduceLT, Int.reduceLE, Int.reduceEq, Int.reduceNeg, Int.reduceToNat, reduceIte, reduceCtorEq, bs_mk, hp', hcut, e1, e2, hR3, wz_agg]
        done
      | cons x r =>
        rcases hc with h | ⟨h1, h2⟩
        · cases h
        obtain rfl := Option.some.inj h1
        obtain ⟨z, hz⟩ : ∃ z, z = 48 :: r := ⟨_, rfl⟩
        rw [← hz] at hcut h2
        have e2 : (z == []) = false := by rw [hz]; rfl
        have e3 : (bs z).data[0]? = some 48 := by rw [hbs_idx (by omega)]; subst hz; rfl
        have e4 : (1 : Int) < (z.length : Int) := by omega
        have e5 : (0 : Int) < (z.length : Int) := by omega
        have e6 : ((48 : UInt8).toNat : Int) = 48 := rfl
        simp only [push_cast, Nat.reduceAdd, Nat.reduceSub, Nat.reduceMul, Nat.reduceLT, Nat.reduceLeDiff, Nat.reduceEqDiff, Nat.reduceMod, Nat.reduceDiv, Int.reduceAdd, Int.reduceSub, Int.reduceMul, Int.reduceLT, Int.reduceLE, Int.reduceEq, Int.reduceNeg, Int.reduceToNat, reduceIte, reduceCtorEq, bs_mk, hp', hcut, e1, e2, e3, e4, e5, e6, hR3, wz_agg]
        done
    · obtain ⟨x, r, hxr⟩ : ∃ x r, d = x :: r := by
        cases d with
        | nil => exact absurd (.inl rfl) hc
        | cons x r => exact ⟨x, r, rfl⟩
      have hl0 : 0 < d.length := by rw [hxr]; show 0 < r.length + 1; omega
      have e2 : (d == []) = false := by rw [hxr]; rfl
      have e3 : (bs d).data[0]? = some x := by rw [hbs_idx hl0]; subst hxr; rfl
      have e5 : (0 : Int) < (d.length : Int) := by omega
      refine (fun rest => ?main : ((T : Tm) → subT T [(2, .pointer (some ⟨b2, 0, none⟩)), (4, .string (bs d)), (6, .int .i64 10), (30, .int .i64 d.length), (31, .int .i64 0)] → WpV Tryd.prog none 57 (.loop ?c) ?K T [⟨b2, 0, .cel 24, [.int .u64 0, .int .u64 0, .int .u64 0, .int .u64 0]⟩]) → _) ?rest
      case main =>
        by_cases hx : x = 48
        · have e7 : ((x.toNat : Int) == 48) = true := by rw [hx]; rfl
          have e8 : ¬ (1 : Int) < (d.length : Int) := by
            intro h
            refine hc (.inr ⟨?_, by omega⟩)
            rw [hxr, hx]; rfl
          simp only [push_cast, Nat.reduceAdd, Nat.reduceSub, Nat.reduceMul, Nat.reduceLT, Nat.reduceLeDiff, Nat.reduceEqDiff, Nat.reduceMod, Nat.reduceDiv, Int.reduceAdd, Int.reduceSub, Int.reduceMul, Int.reduceLT, Int.reduceLE, Int.reduceEq, Int.reduceNeg, Int.reduceToNat, reduceIte, reduceCtorEq, bs_mk, hp', hcut, e1, e2, e3, e5, e7, e8]
          refine rest _ ?_
          simp only [push_cast, Nat.reduceAdd, Nat.reduceSub, Nat.reduceMul, Nat.reduceLT, Nat.reduceLeDiff, Nat.reduceEqDiff, Nat.reduceMod, Nat.reduceDiv, Int.reduceAdd, Int.reduceSub, Int.reduceMul, Int.reduceLT, Int.reduceLE, Int.reduceEq, Int.reduceNeg, Int.reduceToNat, reduceIte, reduceCtorEq]
        · have e7 : ((x.toNat : Int) == 48) = false := beq_eq_false_iff_ne.2 fun h => hx (UInt8.toNat_inj.1 (show x.toNat = 48 by omega))
          simp only [push_cast, Nat.reduceAdd, Nat.reduceSub, Nat.reduceMul, Nat.reduceLT, Nat.reduceLeDiff, Nat.reduceEqDiff, Nat.reduceMod, Nat.reduceDiv, Int.reduceAdd, Int.reduceSub, Int.reduceMul, Int.reduceLT, Int.reduceLE, Int.reduceEq, Int.reduceNeg, Int.reduceToNat, reduceIte, reduceCtorEq, bs_mk, hp', hcut, e1, e2, e3, e5, e7]
          refine rest _ ?_
          simp only [push_cast, Nat.reduceAdd, Nat.reduceSub, Nat.reduceMul, Nat.reduceLT, Nat.reduceLeDiff, Nat.reduceEqDiff, Nat.reduceMod, Nat.reduceDiv, Int.reduceAdd, Int.reduceSub, Int.reduceMul, Int.reduceLT, Int.reduceLE, Int.reduceEq, Int.reduceNeg, Int.reduceToNat, reduceIte, reduceCtorEq]
      case rest =>
        intro T hT
        refine WpV.sub (s := (_, [⟨b2, 0, .cel 24, [.int .u64 0, .int .u64 0, .int .u64 0, .int .u64 0]⟩])) ⟨hT, subH_self _, rfl⟩ ?_
        refine loopO gHg_ok (pl := Tryd.pl28) Tryd.mix (X := Nat × W)
          (fun s => ([(2, .pointer (some ⟨b2, 0, none⟩)), (4, .string (bs d)), (6, .int .i64 10), (30, .int .i64 d.length), (31, .int .i64 s.1)], [⟨b2, 0, .cel 24, s.2.cells⟩]))
          (fun s => s.1 ≤ d.length ∧ valD 10 (d.take s.1) 0 = some s.2.num) (fun s => d.length - s.1) (0, W.zero) ?_ ?_ (by kernel_rfl) ?_
        · exact ⟨Nat.zero_le _, rfl⟩
        · simp only [push_cast, Nat.reduceAdd, Nat.reduceSub, Nat.reduceMul, Nat.reduceLT, Nat.reduceLeDiff, Nat.reduceEqDiff, Nat.reduceMod, Nat.reduceDiv, Int.reduceAdd, Int.reduceSub, Int.reduceMul, Int.reduceLT, Int.reduceLE, Int.reduceEq, Int.reduceNeg, Int.reduceToNat, reduceIte, reduceCtorEq]
          rfl
        · rintro ⟨i, w⟩ ⟨hi, hv⟩
          dsimp only at hi hv ⊢
          rcases Nat.lt_or_ge i d.length with hlt | hge
          · have c1 : (i : Int) < (d.length : Int) := by omega
            have c2 : (bs d).data[i]? = some d[i] := hbs_idx hlt
            have c3 := idx10 d[i]
            cases hk : digV 10 d[i] with
            | none =>
              have hbad : R = (W.zero, 3) := by rw [hpars]; exact parsB_bad (by rw [valD_step hlt hv, hk]; rfl)
              have c4 : digI 10 d[i] = -1 := by unfold digI; rw [hk]
              simp only [push_cast, Nat.reduceAdd, Nat.reduceSub, Nat.reduceMul, Nat.reduceLT, Nat.reduceLeDiff, Nat.reduceEqDiff, Nat.reduceMod, Nat.reduceDiv, Int.reduceAdd, Int.reduceSub, Int.reduceMul, Int.reduceLT, Int.reduceLE, Int.reduceEq, Int.reduceNeg, Int.reduceToNat, reduceIte, reduceCtorEq, c1, c2, c3, c4, hlt, hbad, wz_agg]
              done
            | some k =>
              have hk1 := digV_lt hb10 hk
              have c4 : digI 10 d[i] = (k : Int) := by unfold digI; rw [hk]
              have c5 : ¬ (k : Int) < 0 := by omega
              have g1 := b64_of (n := k) (by omega)
              have g0 : b64 10 = true := b64_of (n := 10) (by decide)
              have hst := valD_step hlt hv
              rw [hk] at hst
              cases hf : fitB (w.num * 10 + k) with
              | false =>
                have hbig : R = (W.zero, 3) := by
                  rw [hpars]
                  refine parsB_big fun n hn => ?_
                  rw [hst] at hn
                  have := valD_ge (by decide) _ _ _ hn
                  rw [fitB_eq, decide_eq_false_iff_not] at hf
                  omega
                simp only [push_cast, Nat.reduceAdd, Nat.reduceSub, Nat.reduceMul, Nat.reduceLT, Nat.reduceLeDiff, Nat.reduceEqDiff, Nat.reduceMod, Nat.reduceDiv, Int.reduceAdd, Int.reduceSub, Int.reduceMul, Int.reduceLT, Int.reduceLE, Int.reduceEq, Int.reduceNeg, Int.reduceToNat, reduceIte, reduceCtorEq, c1, c2, c3, c4, c5, g0, g1, hlt, wrap_u64' (n := (k : Int)) (by omega), hf, hbig, wz_agg]
                done
              | true =>
                simp only [push_cast, Nat.reduceAdd, Nat.reduceSub, Nat.reduceMul, Nat.reduceLT, Nat.reduceLeDiff, Nat.reduceEqDiff, Nat.reduceMod, Nat.reduceDiv, Int.reduceAdd, Int.reduceSub, Int.reduceMul, Int.reduceLT, Int.reduceLE, Int.reduceEq, Int.reduceNeg, Int.reduceToNat, reduceIte, reduceCtorEq, c1, c2, c3, c4, c5, g0, g1, hlt, wrap_u64' (n := (k : Int)) (by omega), hf, wrap_i64' (show -9223372036854775808 ≤ (i : Int) + 1 ∧ (i : Int) + 1 ≤ 9223372036854775807 by omega)]
                rw [fitB_eq, decide_eq_true_eq] at hf
                exact ⟨(i + 1, W.of (w.num * 10 + k)), ⟨by dsimp only; omega, by dsimp only; rw [W.num_of, Nat.mod_eq_of_lt hf]; exact valD_next hlt hv hk⟩, by dsimp only; omega, rfl, rfl⟩
          · obtain rfl : i = d.length := by omega
            rw [List.take_length] at hv
            have hfin : R = (w, 0) := by rw [hpars, parsB_ok hc hv (W.lt256 w), W.of_num]
            simp only [push_cast, Nat.reduceAdd, Nat.reduceSub, Nat.reduceMul, Nat.reduceLT, Nat.reduceLeDiff, Nat.reduceEqDiff, Nat.reduceMod, Nat.reduceDiv, Int.reduceAdd, Int.reduceSub, Int.reduceMul, Int.reduceLT, Int.reduceLE, Int.reduceEq, Int.reduceNeg, Int.reduceToNat, reduceIte, reduceCtorEq, Nat.lt_irrefl, hfin]
            done
  · obtain ⟨d, hd⟩ : ∃ d, d = l.drop 2 := ⟨_, rfl⟩
    have hcut : cutP (bs l) oxS = bs d := by unfold cutP; rw [hp, hd]; rw [if_pos rfl, bs_data]; rfl
    have hp' := hp
    rw [hpre, decide_eq_true_eq] at hp
    rw [if_pos hp, ← hd] at hpars
    have hdl : d.length ≤ l.length := by rw [hd]; rw [List.length_drop]; omega
    have hb10 : 16 = 10 ∨ 16 = 16 := by decide
    clear hd hpre
    by_cases hc : d = [] ∨ (d.head? = some 48 ∧ 1 < d.length)
    · have hR3 : R = (W.zero, 3) := by rw [hpars]; unfold parsB; rw [if_pos hc]
      cases d with
      | nil =>
        have e2 : (([] : List UInt8) == []) = true := rfl
        simp only [push_cast, Nat.reduceAdd, Nat.reduceSub, Nat.reduceMul, Nat.reduceLT, Nat.reduceLeDiff, Nat.reduceEqDiff, Nat.reduceMod, Nat.reduceDiv, Int.reduceAdd, Int.reduceSub, Int.reduceMul, Int.reduceLT, Int.reduceLE, Int.reduceEq, Int.reduceNeg, Int.reduceToNat, reduceIte, reduceCtorEq, bs_mk, hp', hcut, e1, e2, hR3, wz_agg]
        done
      | cons x r =>
        rcases hc with h | ⟨h1, h2⟩
        · cases h
        obtain rfl := Option.some.inj h1
        obtain ⟨z, hz⟩ : ∃ z, z = 48 :: r := ⟨_, rfl⟩
        rw [← hz] at hcut h2
        have e2 : (z == []) = false := by rw [hz]; rfl
        have e3 : (bs z).data[0]? = some 48 := by rw [hbs_idx (by omega)]; subst hz; rfl
        have e4 : (1 : Int) < (z.length : Int) := by omega
        have e5 : (0 : Int) < (z.length : Int) := by omega
        have e6 : ((48 : UInt8).toNat : Int) = 48 := rfl
        simp only [push_cast, Nat.reduceAdd, Nat.reduceSub, Nat.reduceMul, Nat.reduceLT, Nat.reduceLeDiff, Nat.reduceEqDiff, Nat.reduceMod, Nat.reduceDiv, Int.reduceAdd, Int.reduceSub, Int.reduceMul, Int.reduceLT, Int.reduceLE, Int.reduceEq, Int.reduceNeg, Int.reduceToNat, reduceIte, reduceCtorEq, bs_mk, hp', hcut, e1, e2, e3, e4, e5, e6, hR3, wz_agg]
        done
    · obtain ⟨x, r, hxr⟩ : ∃ x r, d = x :: r := by
        cases d with
        | nil => exact absurd (.inl rfl) hc
        | cons x r => exact ⟨x, r, rfl⟩
      have hl0 : 0 < d.length := by rw [hxr]; show 0 < r.length + 1; omega
      have e2 : (d == []) = false := by rw [hxr]; rfl
      have e3 : (bs d).data[0]? = some x := by rw [hbs_idx hl0]; subst hxr; rfl
      have e5 : (0 : Int) < (d.length : Int) := by omega
      refine (fun rest => ?main : ((T : Tm) → subT T [(2, .pointer (some ⟨b2, 0, none⟩)), (4, .string (bs d)), (6, .int .i64 16), (30, .int .i64 d.length), (31, .int .i64 0)] → WpV Tryd.prog none 57 (.loop ?c) ?K T [⟨b2, 0, .cel 24, [.int .u64 0, .int .u64 0, .int .u64 0, .int .u64 0]⟩]) → _) ?rest
      case main =>
        by_cases hx : x = 48
        · have e7 : ((x.toNat : Int) == 48) = true := by rw [hx]; rfl
          have e8 : ¬ (1 : Int) < (d.length : Int) := by
            intro h
            refine hc (.inr ⟨?_, by omega⟩)
            rw [hxr, hx]; rfl
          simp only [push_cast, Nat.reduceAdd, Nat.reduceSub, Nat.reduceMul, Nat.reduceLT, Nat.reduceLeDiff, Nat.reduceEqDiff, Nat.reduceMod, Nat.reduceDiv, Int.reduceAdd, Int.reduceSub, Int.reduceMul, Int.reduceLT, Int.reduceLE, Int.reduceEq, Int.reduceNeg, Int.reduceToNat, reduceIte, reduceCtorEq, bs_mk, hp', hcut, e1, e2, e3, e5, e7, e8]
          refine rest _ ?_
          simp only [push_cast, Nat.reduceAdd, Nat.reduceSub, Nat.reduceMul, Nat.reduceLT, Nat.reduceLeDiff, Nat.reduceEqDiff, Nat.reduceMod, Nat.reduceDiv, Int.reduceAdd, Int.reduceSub, Int.reduceMul, Int.reduceLT, Int.reduceLE, Int.reduceEq, Int.reduceNeg, Int.reduceToNat, reduceIte, reduceCtorEq]
        · have e7 : ((x.toNat : Int) == 48) = false := beq_eq_false_iff_ne.2 fun h => hx (UInt8.toNat_inj.1 (show x.toNat = 48 by omega))
          simp only [push_cast, Nat.reduceAdd, Nat.reduceSub, Nat.reduceMul, Nat.reduceLT, Nat.reduceLeDiff, Nat.reduceEqDiff, Nat.reduceMod, Nat.reduceDiv, Int.reduceAdd, Int.reduceSub, Int.reduceMul, Int.reduceLT, Int.reduceLE, Int.reduceEq, Int.reduceNeg, Int.reduceToNat, reduceIte, reduceCtorEq, bs_mk, hp', hcut, e1, e2, e3, e5, e7]
          refine rest _ ?_
          simp only [push_cast, Nat.reduceAdd, Nat.reduceSub, Nat.reduceMul, Nat.reduceLT, Nat.reduceLeDiff, Nat.reduceEqDiff, Nat.reduceMod, Nat.reduceDiv, Int.reduceAdd, Int.reduceSub, Int.reduceMul, Int.reduceLT, Int.reduceLE, Int.reduceEq, Int.reduceNeg, Int.reduceToNat, reduceIte, reduceCtorEq]
      case rest =>
        intro T hT
        refine WpV.sub (s := (_, [⟨b2, 0, .cel 24, [.int .u64 0, .int .u64 0, .int .u64 0, .int .u64 0]⟩])) ⟨hT, subH_self _, rfl⟩ ?_
        refine loopO gHg_ok (pl := Tryd.pl28) Tryd.mix (X := Nat × W)
          (fun s => ([(2, .pointer (some ⟨b2, 0, none⟩)), (4, .string (bs d)), (6, .int .i64 16), (30, .int .i64 d.length), (31, .int .i64 s.1)], [⟨b2, 0, .cel 24, s.2.cells⟩]))
          (fun s => s.1 ≤ d.length ∧ valD 16 (d.take s.1) 0 = some s.2.num) (fun s => d.length - s.1) (0, W.zero) ?_ ?_ (by kernel_rfl) ?_
        · exact ⟨Nat.zero_le _, rfl⟩
        · simp only [push_cast, Nat.reduceAdd, Nat.reduceSub, Nat.reduceMul, Nat.reduceLT, Nat.reduceLeDiff, Nat.reduceEqDiff, Nat.reduceMod, Nat.reduceDiv, Int.reduceAdd, Int.reduceSub, Int.reduceMul, Int.reduceLT, Int.reduceLE, Int.reduceEq, Int.reduceNeg, Int.reduceToNat, reduceIte, reduceCtorEq]
          rfl
        · rintro ⟨i, w⟩ ⟨hi, hv⟩
          dsimp only at hi hv ⊢
          rcases Nat.lt_or_ge i d.length with hlt | hge
          · have c1 : (i : Int) < (d.length : Int) := by omega
            have c2 : (bs d).data[i]? = some d[i] := hbs_idx hlt
            have c3 := idx16 d[i]
            cases hk : digV 16 d[i] with
            | none =>
              have hbad : R = (W.zero, 3) := by rw [hpars]; exact parsB_bad (by rw [valD_step hlt hv, hk]; rfl)
              have c4 : digI 16 d[i] = -1 := by unfold digI; rw [hk]
              simp only [push_cast, Nat.reduceAdd, Nat.reduceSub, Nat.reduceMul, Nat.reduceLT, Nat.reduceLeDiff, Nat.reduceEqDiff, Nat.reduceMod, Nat.reduceDiv, Int.reduceAdd, Int.reduceSub, Int.reduceMul, Int.reduceLT, Int.reduceLE, Int.reduceEq, Int.reduceNeg, Int.reduceToNat, reduceIte, reduceCtorEq, c1, c2, c3, c4, hlt, hbad, wz_agg]
              done
            | some k =>
              have hk1 := digV_lt hb10 hk
              have c4 : digI 16 d[i] = (k : Int) := by unfold digI; rw [hk]
              have c5 : ¬ (k : Int) < 0 := by omega
              have g1 := b64_of (n := k) (by omega)
              have g0 : b64 16 = true := b64_of (n := 16) (by decide)
              have hst := valD_step hlt hv
              rw [hk] at hst
              cases hf : fitB (w.num * 16 + k) with
              | false =>
                have hbig : R = (W.zero, 3) := by
                  rw [hpars]
                  refine parsB_big fun n hn => ?_
                  rw [hst] at hn
                  have := valD_ge (by decide) _ _ _ hn
                  rw [fitB_eq, decide_eq_false_iff_not] at hf
                  omega
                simp only [push_cast, Nat.reduceAdd, Nat.reduceSub, Nat.reduceMul, Nat.reduceLT, Nat.reduceLeDiff, Nat.reduceEqDiff, Nat.reduceMod, Nat.reduceDiv, Int.reduceAdd, Int.reduceSub, Int.reduceMul, Int.reduceLT, Int.reduceLE, Int.reduceEq, Int.reduceNeg, Int.reduceToNat, reduceIte, reduceCtorEq, c1, c2, c3, c4, c5, g0, g1, hlt, wrap_u64' (n := (k : Int)) (by omega), hf, hbig, wz_agg]
                done
              | true =>
                simp only [push_cast, Nat.reduceAdd, Nat.reduceSub, Nat.reduceMul, Nat.reduceLT, Nat.reduceLeDiff, Nat.reduceEqDiff, Nat.reduceMod, Nat.reduceDiv, Int.reduceAdd, Int.reduceSub, Int.reduceMul, Int.reduceLT, Int.reduceLE, Int.reduceEq, Int.reduceNeg, Int.reduceToNat, reduceIte, reduceCtorEq, c1, c2, c3, c4, c5, g0, g1, hlt, wrap_u64' (n := (k : Int)) (by omega), hf, wrap_i64' (show -9223372036854775808 ≤ (i : Int) + 1 ∧ (i : Int) + 1 ≤ 9223372036854775807 by omega)]
                rw [fitB_eq, decide_eq_true_eq] at hf
                exact ⟨(i + 1, W.of (w.num * 16 + k)), ⟨by dsimp only; omega, by dsimp only; rw [W.num_of, Nat.mod_eq_of_lt hf]; exact valD_next hlt hv hk⟩, by dsimp only; omega, rfl, rfl⟩
          · obtain rfl : i = d.length := by omega
            rw [List.take_length] at hv
            have hfin : R = (w, 0) := by rw [hpars, parsB_ok hc hv (W.lt256 w), W.of_num]
            simp only [push_cast, Nat.reduceAdd, Nat.reduceSub, Nat.reduceMul, Nat.reduceLT, Nat.reduceLeDiff, Nat.reduceEqDiff, Nat.reduceMod, Nat.reduceDiv, Int.reduceAdd, Int.reduceSub, Int.reduceMul, Int.reduceLT, Int.reduceLE, Int.reduceEq, Int.reduceNeg, Int.reduceToNat, reduceIte, reduceCtorEq, Nat.lt_irrefl, hfin]
            done
theorem parseG_ok (args : List Value) (v : Value) (h : parseG args = some v) : CallsV Tryd.prog 28 args [] (Ret0 v) := by
  unfold parseG at h
  split at h
  · split at h
    · rename_i b hb
      cases h
      rw [pzB_eq, decide_eq_true_eq] at hb
      exact wordParse b hb
    · cases h
  · cases h
end Go.Proofs.YtndioekjgmbomaaDoor
