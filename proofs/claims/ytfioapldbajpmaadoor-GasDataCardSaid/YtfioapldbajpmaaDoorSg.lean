/- Sg: slices.Collect of bytes; the program's word.Bytes. -/
import Derived.Test.YtfioapldbajpmaaDoorSf
set_option linter.unusedSimpArgs false
set_option linter.unusedVariables false
namespace Go.Ev
noncomputable def wbytesG : List Value → Option Value
  | [x] => (wOf x).bind fun a => some (.string ⟨(wbytes a).toArray⟩)
  | _ => none
attribute [push_cast] wbytesG
end Go.Ev
namespace Go.Proofs.YtfioapldbajpmaaDoor
open Go Go.Ev Go.Proofs
set_option maxRecDepth 100000
set_option maxHeartbeats 4000000
theorem collect_ok {gf : FuncId} {caps : List Value} {Hc : Hp} {l : List UInt8} (hit : IterV Tryd.prog gf caps Hc (byteArgs l)) (hmc : marksOf Hc = []) (hro : ∀ e ∈ Hc, e.kind = .ro) (hd : derE Hc Hc) (hl : l.length ≤ 1099511627776) :
    CallsV Tryd.prog 62 [.func (.func gf) #[] caps.toArray] Hc (OutC 5 1 (byteV l) l.length) := by
  refine callsO (noG_ok _) Tryd.mix Tryd.pl62 Tryd.func62 rfl Tryd.ntmps62 Tryd.results62 rfl (by first | rfl | assumption) (Nat.le_of_ble_eq_true rfl) (by kernel_rfl) ?_
  simp only [push_cast, Nat.reduceAdd, Nat.reduceSub, Nat.reduceMul, Nat.reduceLT, Nat.reduceLeDiff, Nat.reduceEqDiff, Nat.reduceMod, Nat.reduceDiv, Int.reduceAdd, Int.reduceSub, Int.reduceMul, Int.reduceLT, Int.reduceLE, Int.reduceEq, Int.reduceNeg, Int.reduceToNat, reduceIte, reduceCtorEq, Int.reduceBEq, Int.reduceBNe, Bool.true_beq, Bool.false_beq, Bool.true_bne, Bool.false_bne, Bool.not_true, Bool.not_false]
  refine (appendSeq_ok hit hmc hl).use hd fun v N ho => ⟨ho.wr.1, ho.wr.2, fun hf => ?_⟩
  simp only [push_cast, Nat.reduceAdd, Nat.reduceSub, Nat.reduceMul, Nat.reduceLT, Nat.reduceLeDiff, Nat.reduceEqDiff, Nat.reduceMod, Nat.reduceDiv, Int.reduceAdd, Int.reduceSub, Int.reduceMul, Int.reduceLT, Int.reduceLE, Int.reduceEq, Int.reduceNeg, Int.reduceToNat, reduceIte, reduceCtorEq, Int.reduceBEq, Int.reduceBNe, Bool.true_beq, Bool.false_beq, Bool.true_bne, Bool.false_bne, Bool.not_true, Bool.not_false]
  refine ⟨N, ?_, ho⟩
  rw [dropM_eq (by rw [marks_append, ho.wr.2, hmc]; rfl)]
  exact List.sublist_append_left _ _
theorem octets_ok (w : W) : CallsV Tryd.prog 63 [w.v] [] (fun r N => ∃ b1, r = .func (.func 75) #[] #[.pointer (some ⟨b1, 0, none⟩)] ∧ N = [⟨b1, 0, .cel 24, w.cells⟩]) := by
  refine callsO (noG_ok _) Tryd.mix Tryd.pl63 Tryd.func63 rfl Tryd.ntmps63 Tryd.results63 rfl (by first | rfl | assumption) (Nat.le_of_ble_eq_true rfl) (by kernel_rfl) ?_
  simp only [push_cast, Nat.reduceAdd, Nat.reduceSub, Nat.reduceMul, Nat.reduceLT, Nat.reduceLeDiff, Nat.reduceEqDiff, Nat.reduceMod, Nat.reduceDiv, Int.reduceAdd, Int.reduceSub, Int.reduceMul, Int.reduceLT, Int.reduceLE, Int.reduceEq, Int.reduceNeg, Int.reduceToNat, reduceIte, reduceCtorEq, Int.reduceBEq, Int.reduceBNe, Bool.true_beq, Bool.false_beq, Bool.true_bne, Bool.false_bne, Bool.not_true, Bool.not_false]
  intro b1
  exact ⟨_, List.Sublist.refl _, b1, rfl, rfl⟩
theorem octIter {Hc : Hp} {w : W} {b1 : Nat} {k1 : Kind} (hmc : marksOf Hc = []) (h1 : findE Hc b1 = some ⟨b1, 0, k1, w.cells⟩) :
    IterV Tryd.prog 75 [.pointer (some ⟨b1, 0, none⟩)] Hc (byteArgs (wbytes w)) := by
  refine ⟨enterO Tryd.func75 rfl rfl, fun X Ho I St l x0 hro hmk h0 hy => ?_⟩
  have hmarks : ∀ x, marksOf (Hc ++ Ho x) = [] := fun x => by rw [marks_append, hmc, hmk]; rfl
  have hm0 := hmarks x0
  have h1' := fun z => findE_left (B := Ho z) h1
  obtain ⟨vs, hvs⟩ : ∃ vs, vs = byteArgs (wbytes w) := ⟨_, rfl⟩
  have hvl : vs.length = 32 := by rw [hvs]; unfold byteArgs; rw [List.length_map, wbytes_len]
  have yl : ∀ (j : Nat) (z : X) (v : Value) (K' : Value → Hp → Prop), j < 32 → v = .int .u8 (digN w.num (31 - j) : Nat) → I j z → (∀ x', I (j + 1) x' → K' (.bool true) (Hc ++ Ho x')) → (∀ x', St x' → K' (.bool false) (Hc ++ Ho x')) → YieldV Tryd.prog l [v] (Hc ++ Ho z) K' := fun j z v K' hj hv hi ht hf => by
    subst hv
    refine (hy j z [.int .u8 (digN w.num (31 - j) : Nat)] (by unfold byteArgs; rw [List.getElem?_map, wbytes_at w hj, Option.map_some, ofNat_dig]) hi).frame ?_ ?_
    · rintro v H' (⟨rfl, x', _, rfl⟩ | ⟨rfl, x', _, rfl⟩) <;> exact hro z x'
    · rintro v H' (⟨rfl, x', h, rfl⟩ | ⟨rfl, x', h, rfl⟩)
      · exact ht x' h
      · exact hf x' h
  have yf : ∀ (x' : X), (I vs.length x' ∨ St x') → ∃ H'_1, List.Sublist H'_1 (dropM (Hc ++ Ho x')) ∧ ∃ z, (I vs.length z ∨ St z) ∧ H'_1 = Ho z := fun x' hst => by
    refine ⟨Ho x', ?_, x', hst, rfl⟩
    rw [dropM_eq (hmarks x')]
    exact List.sublist_append_right _ _
  have ha := w.ha; have hb := w.hb; have hc := w.hc; have hd := w.hd
  rw [← hvs]
  refine callsO (noG_ok _) Tryd.mix Tryd.pl75 Tryd.func75 rfl Tryd.ntmps75 Tryd.results75 rfl (by first | rfl | assumption) (Nat.le_of_ble_eq_true rfl) (by kernel_rfl) ?_
  simp only [push_cast, Nat.reduceAdd, Nat.reduceSub, Nat.reduceMul, Nat.reduceLT, Nat.reduceLeDiff, Nat.reduceEqDiff, Nat.reduceMod, Nat.reduceDiv, Int.reduceAdd, Int.reduceSub, Int.reduceMul, Int.reduceLT, Int.reduceLE, Int.reduceEq, Int.reduceNeg, Int.reduceToNat, reduceIte, reduceCtorEq, Int.reduceBEq, Int.reduceBNe, Bool.true_beq, Bool.false_beq, Bool.true_bne, Bool.false_bne, Bool.not_true, Bool.not_false, h1']
  refine loopO (noG_ok _) (pl := Tryd.pl75) Tryd.mix (X := Nat × X)
    (fun s => ([(0, .func (.yield l) #[] #[]), (1, .pointer (some ⟨b1, 0, none⟩)), (3, .int .i64 ((s.1 : Int) - 1))], Hc ++ Ho s.2))
    (fun s => s.1 ≤ 32 ∧ I (32 - s.1) s.2) (fun s => s.1) (32, x0) ?_ ?_ (by kernel_rfl) ?_
  · exact ⟨Nat.le_refl _, h0⟩
  · simp only [push_cast, Nat.reduceAdd, Nat.reduceSub, Nat.reduceMul, Nat.reduceLT, Nat.reduceLeDiff, Nat.reduceEqDiff, Nat.reduceMod, Nat.reduceDiv, Int.reduceAdd, Int.reduceSub, Int.reduceMul, Int.reduceLT, Int.reduceLE, Int.reduceEq, Int.reduceNeg, Int.reduceToNat, reduceIte, reduceCtorEq, Int.reduceBEq, Int.reduceBNe, Bool.true_beq, Bool.false_beq, Bool.true_bne, Bool.false_bne, Bool.not_true, Bool.not_false, hm0, subH_self]
    done
  · rintro ⟨s, z⟩ ⟨hi, hI⟩
    dsimp only at hi hI ⊢
    rcases Nat.eq_zero_or_pos s with rfl | hs
    · simp only [push_cast, Nat.reduceAdd, Nat.reduceSub, Nat.reduceMul, Nat.reduceLT, Nat.reduceLeDiff, Nat.reduceEqDiff, Nat.reduceMod, Nat.reduceDiv, Int.reduceAdd, Int.reduceSub, Int.reduceMul, Int.reduceLT, Int.reduceLE, Int.reduceEq, Int.reduceNeg, Int.reduceToNat, reduceIte, reduceCtorEq, Int.reduceBEq, Int.reduceBNe, Bool.true_beq, Bool.false_beq, Bool.true_bne, Bool.false_bne, Bool.not_true, Bool.not_false, h1']
      exact yf z (.inl (by rw [hvl]; exact hI))
    · obtain ⟨i, rfl⟩ : ∃ i, s = i + 1 := ⟨s - 1, by omega⟩
      have ej : ((i + 1 : Nat) : Int) - 1 = (i : Int) := by omega
      have i0 : (0 : Int) ≤ (i : Int) := by omega
      rw [ej]
      obtain ⟨p, hp⟩ : ∃ p, p = i / 8 := ⟨_, rfl⟩
      obtain ⟨r, hr⟩ : ∃ r, r = i % 8 := ⟨_, rfl⟩
      have ep : (i : Int).tdiv 8 = (p : Int) := by rw [hp]; rfl
      have er : (i : Int).tmod 8 = (r : Int) := by rw [hr]; rfl
      have hdg := dig_part w (i := p) (k := r) (by omega) (by omega)
      rw [show 8 * p + r = i by omega] at hdg
      have hoc : ∀ x, w.part p = x → x < 18446744073709551616 → IntKind.u8.wrap (shrI .u64 (x : Int) ((r : Int) * 8)) = ((digN w.num i : Nat) : Int) := fun x hx hl => by rw [octet hl (by omega), hdg, hx]
      have hj : 31 - (32 - (i + 1)) = i := by omega
      have rn : ¬ (r : Int) * 8 < 0 := by omega
      obtain rfl | rfl | rfl | rfl : p = 0 ∨ p = 1 ∨ p = 2 ∨ p = 3 := by omega
      · have ho := hoc w.a rfl ha
        simp only [push_cast, Nat.reduceAdd, Nat.reduceSub, Nat.reduceMul, Nat.reduceLT, Nat.reduceLeDiff, Nat.reduceEqDiff, Nat.reduceMod, Nat.reduceDiv, Int.reduceAdd, Int.reduceSub, Int.reduceMul, Int.reduceLT, Int.reduceLE, Int.reduceEq, Int.reduceNeg, Int.reduceToNat, reduceIte, reduceCtorEq, Int.reduceBEq, Int.reduceBNe, Bool.true_beq, Bool.false_beq, Bool.true_bne, Bool.false_bne, Bool.not_true, Bool.not_false, h1', i0, ep, er, rn, ho, wrap_i64' (show -9223372036854775808 ≤ (r : Int) * 8 ∧ (r : Int) * 8 ≤ 9223372036854775807 by omega)]
        refine yl (32 - (i + 1)) z _ _ (by omega) (by rw [hj]) hI (fun x' hx' => ?_) (fun x' hx' => ?_)
        · simp only [push_cast, Nat.reduceAdd, Nat.reduceSub, Nat.reduceMul, Nat.reduceLT, Nat.reduceLeDiff, Nat.reduceEqDiff, Nat.reduceMod, Nat.reduceDiv, Int.reduceAdd, Int.reduceSub, Int.reduceMul, Int.reduceLT, Int.reduceLE, Int.reduceEq, Int.reduceNeg, Int.reduceToNat, reduceIte, reduceCtorEq, Int.reduceBEq, Int.reduceBNe, Bool.true_beq, Bool.false_beq, Bool.true_bne, Bool.false_bne, Bool.not_true, Bool.not_false, wrap_i64' (show -9223372036854775808 ≤ (i : Int) - 1 ∧ (i : Int) - 1 ≤ 9223372036854775807 by omega)]
          exact ⟨(i, x'), ⟨by dsimp only; omega, by dsimp only; rw [show 32 - i = 32 - (i + 1) + 1 by omega]; exact hx'⟩, by dsimp only; omega, ⟨rfl, subH_self _, by simp only [hmarks]⟩⟩
        · simp only [push_cast, Nat.reduceAdd, Nat.reduceSub, Nat.reduceMul, Nat.reduceLT, Nat.reduceLeDiff, Nat.reduceEqDiff, Nat.reduceMod, Nat.reduceDiv, Int.reduceAdd, Int.reduceSub, Int.reduceMul, Int.reduceLT, Int.reduceLE, Int.reduceEq, Int.reduceNeg, Int.reduceToNat, reduceIte, reduceCtorEq, Int.reduceBEq, Int.reduceBNe, Bool.true_beq, Bool.false_beq, Bool.true_bne, Bool.false_bne, Bool.not_true, Bool.not_false]
          exact yf x' (.inr hx')
      · have ho := hoc w.b rfl hb
        simp only [push_cast, Nat.reduceAdd, Nat.reduceSub, Nat.reduceMul, Nat.reduceLT, Nat.reduceLeDiff, Nat.reduceEqDiff, Nat.reduceMod, Nat.reduceDiv, Int.reduceAdd, Int.reduceSub, Int.reduceMul, Int.reduceLT, Int.reduceLE, Int.reduceEq, Int.reduceNeg, Int.reduceToNat, reduceIte, reduceCtorEq, Int.reduceBEq, Int.reduceBNe, Bool.true_beq, Bool.false_beq, Bool.true_bne, Bool.false_bne, Bool.not_true, Bool.not_false, h1', i0, ep, er, rn, ho, wrap_i64' (show -9223372036854775808 ≤ (r : Int) * 8 ∧ (r : Int) * 8 ≤ 9223372036854775807 by omega)]
        refine yl (32 - (i + 1)) z _ _ (by omega) (by rw [hj]) hI (fun x' hx' => ?_) (fun x' hx' => ?_)
        · simp only [push_cast, Nat.reduceAdd, Nat.reduceSub, Nat.reduceMul, Nat.reduceLT, Nat.reduceLeDiff, Nat.reduceEqDiff, Nat.reduceMod, Nat.reduceDiv, Int.reduceAdd, Int.reduceSub, Int.reduceMul, Int.reduceLT, Int.reduceLE, Int.reduceEq, Int.reduceNeg, Int.reduceToNat, reduceIte, reduceCtorEq, Int.reduceBEq, Int.reduceBNe, Bool.true_beq, Bool.false_beq, Bool.true_bne, Bool.false_bne, Bool.not_true, Bool.not_false, wrap_i64' (show -9223372036854775808 ≤ (i : Int) - 1 ∧ (i : Int) - 1 ≤ 9223372036854775807 by omega)]
          exact ⟨(i, x'), ⟨by dsimp only; omega, by dsimp only; rw [show 32 - i = 32 - (i + 1) + 1 by omega]; exact hx'⟩, by dsimp only; omega, ⟨rfl, subH_self _, by simp only [hmarks]⟩⟩
        · simp only [push_cast, Nat.reduceAdd, Nat.reduceSub, Nat.reduceMul, Nat.reduceLT, Nat.reduceLeDiff, Nat.reduceEqDiff, Nat.reduceMod, Nat.reduceDiv, Int.reduceAdd, Int.reduceSub, Int.reduceMul, Int.reduceLT, Int.reduceLE, Int.reduceEq, Int.reduceNeg, Int.reduceToNat, reduceIte, reduceCtorEq, Int.reduceBEq, Int.reduceBNe, Bool.true_beq, Bool.false_beq, Bool.true_bne, Bool.false_bne, Bool.not_true, Bool.not_false]
          exact yf x' (.inr hx')
      · have ho := hoc w.c rfl hc
        simp only [push_cast, Nat.reduceAdd, Nat.reduceSub, Nat.reduceMul, Nat.reduceLT, Nat.reduceLeDiff, Nat.reduceEqDiff, Nat.reduceMod, Nat.reduceDiv, Int.reduceAdd, Int.reduceSub, Int.reduceMul, Int.reduceLT, Int.reduceLE, Int.reduceEq, Int.reduceNeg, Int.reduceToNat, reduceIte, reduceCtorEq, Int.reduceBEq, Int.reduceBNe, Bool.true_beq, Bool.false_beq, Bool.true_bne, Bool.false_bne, Bool.not_true, Bool.not_false, h1', i0, ep, er, rn, ho, wrap_i64' (show -9223372036854775808 ≤ (r : Int) * 8 ∧ (r : Int) * 8 ≤ 9223372036854775807 by omega)]
        refine yl (32 - (i + 1)) z _ _ (by omega) (by rw [hj]) hI (fun x' hx' => ?_) (fun x' hx' => ?_)
        · simp only [push_cast, Nat.reduceAdd, Nat.reduceSub, Nat.reduceMul, Nat.reduceLT, Nat.reduceLeDiff, Nat.reduceEqDiff, Nat.reduceMod, Nat.reduceDiv, Int.reduceAdd, Int.reduceSub, Int.reduceMul, Int.reduceLT, Int.reduceLE, Int.reduceEq, Int.reduceNeg, Int.reduceToNat, reduceIte, reduceCtorEq, Int.reduceBEq, Int.reduceBNe, Bool.true_beq, Bool.false_beq, Bool.true_bne, Bool.false_bne, Bool.not_true, Bool.not_false, wrap_i64' (show -9223372036854775808 ≤ (i : Int) - 1 ∧ (i : Int) - 1 ≤ 9223372036854775807 by omega)]
          exact ⟨(i, x'), ⟨by dsimp only; omega, by dsimp only; rw [show 32 - i = 32 - (i + 1) + 1 by omega]; exact hx'⟩, by dsimp only; omega, ⟨rfl, subH_self _, by simp only [hmarks]⟩⟩
        · simp only [push_cast, Nat.reduceAdd, Nat.reduceSub, Nat.reduceMul, Nat.reduceLT, Nat.reduceLeDiff, Nat.reduceEqDiff, Nat.reduceMod, Nat.reduceDiv, Int.reduceAdd, Int.reduceSub, Int.reduceMul, Int.reduceLT, Int.reduceLE, Int.reduceEq, Int.reduceNeg, Int.reduceToNat, reduceIte, reduceCtorEq, Int.reduceBEq, Int.reduceBNe, Bool.true_beq, Bool.false_beq, Bool.true_bne, Bool.false_bne, Bool.not_true, Bool.not_false]
          exact yf x' (.inr hx')
      · have ho := hoc w.d rfl hd
        simp only [push_cast, Nat.reduceAdd, Nat.reduceSub, Nat.reduceMul, Nat.reduceLT, Nat.reduceLeDiff, Nat.reduceEqDiff, Nat.reduceMod, Nat.reduceDiv, Int.reduceAdd, Int.reduceSub, Int.reduceMul, Int.reduceLT, Int.reduceLE, Int.reduceEq, Int.reduceNeg, Int.reduceToNat, reduceIte, reduceCtorEq, Int.reduceBEq, Int.reduceBNe, Bool.true_beq, Bool.false_beq, Bool.true_bne, Bool.false_bne, Bool.not_true, Bool.not_false, h1', i0, ep, er, rn, ho, wrap_i64' (show -9223372036854775808 ≤ (r : Int) * 8 ∧ (r : Int) * 8 ≤ 9223372036854775807 by omega)]
        refine yl (32 - (i + 1)) z _ _ (by omega) (by rw [hj]) hI (fun x' hx' => ?_) (fun x' hx' => ?_)
        · simp only [push_cast, Nat.reduceAdd, Nat.reduceSub, Nat.reduceMul, Nat.reduceLT, Nat.reduceLeDiff, Nat.reduceEqDiff, Nat.reduceMod, Nat.reduceDiv, Int.reduceAdd, Int.reduceSub, Int.reduceMul, Int.reduceLT, Int.reduceLE, Int.reduceEq, Int.reduceNeg, Int.reduceToNat, reduceIte, reduceCtorEq, Int.reduceBEq, Int.reduceBNe, Bool.true_beq, Bool.false_beq, Bool.true_bne, Bool.false_bne, Bool.not_true, Bool.not_false, wrap_i64' (show -9223372036854775808 ≤ (i : Int) - 1 ∧ (i : Int) - 1 ≤ 9223372036854775807 by omega)]
          exact ⟨(i, x'), ⟨by dsimp only; omega, by dsimp only; rw [show 32 - i = 32 - (i + 1) + 1 by omega]; exact hx'⟩, by dsimp only; omega, ⟨rfl, subH_self _, by simp only [hmarks]⟩⟩
        · simp only [push_cast, Nat.reduceAdd, Nat.reduceSub, Nat.reduceMul, Nat.reduceLT, Nat.reduceLeDiff, Nat.reduceEqDiff, Nat.reduceMod, Nat.reduceDiv, Int.reduceAdd, Int.reduceSub, Int.reduceMul, Int.reduceLT, Int.reduceLE, Int.reduceEq, Int.reduceNeg, Int.reduceToNat, reduceIte, reduceCtorEq, Int.reduceBEq, Int.reduceBNe, Bool.true_beq, Bool.false_beq, Bool.true_bne, Bool.false_bne, Bool.not_true, Bool.not_false]
          exact yf x' (.inr hx')
theorem wordBytes (w : W) : CallsV Tryd.prog 46 [w.v] [] (Ret0 (.string ⟨(wbytes w).toArray⟩)) := by
  refine callsO (noG_ok _) Tryd.mix Tryd.pl46 Tryd.func46 rfl Tryd.ntmps46 Tryd.results46 rfl (by first | rfl | assumption) (Nat.le_of_ble_eq_true rfl) (by kernel_rfl) ?_
  simp only [push_cast, Nat.reduceAdd, Nat.reduceSub, Nat.reduceMul, Nat.reduceLT, Nat.reduceLeDiff, Nat.reduceEqDiff, Nat.reduceMod, Nat.reduceDiv, Int.reduceAdd, Int.reduceSub, Int.reduceMul, Int.reduceLT, Int.reduceLE, Int.reduceEq, Int.reduceNeg, Int.reduceToNat, reduceIte, reduceCtorEq, Int.reduceBEq, Int.reduceBNe, Bool.true_beq, Bool.false_beq, Bool.true_bne, Bool.false_bne, Bool.not_true, Bool.not_false]
  intro b1
  refine (octets_ok w).use trivial ?_
  rintro r N ⟨b2, rfl, rfl⟩
  refine ⟨⟨trivial, trivial⟩, rfl, fun hf => ?_⟩
  simp only [push_cast, Nat.reduceAdd, Nat.reduceSub, Nat.reduceMul, Nat.reduceLT, Nat.reduceLeDiff, Nat.reduceEqDiff, Nat.reduceMod, Nat.reduceDiv, Int.reduceAdd, Int.reduceSub, Int.reduceMul, Int.reduceLT, Int.reduceLE, Int.reduceEq, Int.reduceNeg, Int.reduceToNat, reduceIte, reduceCtorEq, Int.reduceBEq, Int.reduceBNe, Bool.true_beq, Bool.false_beq, Bool.true_bne, Bool.false_bne, Bool.not_true, Bool.not_false] at hf
  simp only [push_cast, Nat.reduceAdd, Nat.reduceSub, Nat.reduceMul, Nat.reduceLT, Nat.reduceLeDiff, Nat.reduceEqDiff, Nat.reduceMod, Nat.reduceDiv, Int.reduceAdd, Int.reduceSub, Int.reduceMul, Int.reduceLT, Int.reduceLE, Int.reduceEq, Int.reduceNeg, Int.reduceToNat, reduceIte, reduceCtorEq, Int.reduceBEq, Int.reduceBNe, Bool.true_beq, Bool.false_beq, Bool.true_bne, Bool.false_bne, Bool.not_true, Bool.not_false, hf]
  have hdr : derE [⟨b2, 0, .ro, w.cells⟩] [⟨b2, 0, .ro, w.cells⟩] := by simp only [push_cast, Nat.reduceAdd, Nat.reduceSub, Nat.reduceMul, Nat.reduceLT, Nat.reduceLeDiff, Nat.reduceEqDiff, Nat.reduceMod, Nat.reduceDiv, Int.reduceAdd, Int.reduceSub, Int.reduceMul, Int.reduceLT, Int.reduceLE, Int.reduceEq, Int.reduceNeg, Int.reduceToNat, reduceIte, reduceCtorEq, Int.reduceBEq, Int.reduceBNe, Bool.true_beq, Bool.false_beq, Bool.true_bne, Bool.false_bne, Bool.not_true, Bool.not_false]
  refine (collect_ok (l := wbytes w) (octIter (Hc := [⟨b2, 0, .ro, w.cells⟩]) (w := w) (b1 := b2) (k1 := .ro) rfl (by simp [findE])) rfl (by simp) hdr (by rw [wbytes_len]; decide)).use (by simp only [push_cast, Nat.reduceAdd, Nat.reduceSub, Nat.reduceMul, Nat.reduceLT, Nat.reduceLeDiff, Nat.reduceEqDiff, Nat.reduceMod, Nat.reduceDiv, Int.reduceAdd, Int.reduceSub, Int.reduceMul, Int.reduceLT, Int.reduceLE, Int.reduceEq, Int.reduceNeg, Int.reduceToNat, reduceIte, reduceCtorEq, Int.reduceBEq, Int.reduceBNe, Bool.true_beq, Bool.false_beq, Bool.true_bne, Bool.false_bne, Bool.not_true, Bool.not_false, hf]) ?_
  rintro v N ho
  refine ⟨ho.wr.1, ho.wr.2, fun hf2 => ?_⟩
  have hw := wbytes_len w
  rw [hw] at ho
  obtain ⟨bz, cz, rfl, hcz, hzl, rfl⟩ := ho.pos (by decide)
  have hbo := bytesOf_byteV (wbytes w)
  have htk : List.take 32 (byteV (wbytes w)) = byteV (wbytes w) := List.take_of_length_le (by rw [byteV_len, hw]; exact Nat.le_refl _)
  have hbl : (byteV (wbytes w)).length = 32 := by rw [byteV_len, hw]
  simp only [push_cast, Nat.reduceAdd, Nat.reduceSub, Nat.reduceMul, Nat.reduceLT, Nat.reduceLeDiff, Nat.reduceEqDiff, Nat.reduceMod, Nat.reduceDiv, Int.reduceAdd, Int.reduceSub, Int.reduceMul, Int.reduceLT, Int.reduceLE, Int.reduceEq, Int.reduceNeg, Int.reduceToNat, reduceIte, reduceCtorEq, Int.reduceBEq, Int.reduceBNe, Bool.true_beq, Bool.false_beq, Bool.true_bne, Bool.false_bne, Bool.not_true, Bool.not_false, hf, strOfV, htk, hbl, hbo]
  done
theorem wordBytesG (args : List Value) (v : Value) (h : wbytesG args = some v) : CallsV Tryd.prog 46 args [] (Ret0 v) := by
  unfold wbytesG at h
  split at h
  · rename_i x
    cases hx : wOf x with
    | none => simp [hx] at h
    | some a =>
      simp only [hx, Option.bind_some, Option.some.injEq] at h
      rw [wOf_some hx, ← h]
      exact wordBytes a
  · cases h
end Go.Proofs.YtfioapldbajpmaaDoor
