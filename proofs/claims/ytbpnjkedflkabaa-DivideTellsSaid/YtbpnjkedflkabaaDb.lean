/- Db: the iterators over a number's bits: written by program (wip/tools/ones.py). -/
import Derived.Test.YtbpnjkedflkabaaDa
set_option linter.unusedSimpArgs false
set_option linter.unusedVariables false
namespace Go.Proofs.Ytbpnjkedflkabaa
open Go Go.Ev Go.Proofs
set_option maxRecDepth 100000
set_option maxHeartbeats 4000000
theorem ones1_ok {Hc : Hp} {x : W1} {bn : Nat} {kd : Kind} (hmc : marksOf Hc = []) (h : findE Hc bn = some ⟨bn, 0, kd, x.cells⟩) :
    IterV Try.prog 56 [.pointer (some ⟨bn, 0, none⟩)] Hc ((List.range 256).map fun j => [.int .u64 (bitN x.num (255 - j) : Nat)]) := by
  refine ⟨enterO Try.func56 rfl rfl, fun X Ho I St l x0 hro hmk h0 hy => ?_⟩
  have hmarks : ∀ x, marksOf (Hc ++ Ho x) = [] := fun x => by rw [marks_append, hmc, hmk]; rfl
  have hm0 := hmarks x0
  have h' := fun z => findE_left (B := Ho z) h
  have yl : ∀ (j : Nat) (z : X) (v : Value) (K' : Value → Hp → Prop), j < 256 → v = .int .u64 (bitN x.num (255 - j) : Nat) → I j z → (∀ x', I (j + 1) x' → K' (.bool true) (Hc ++ Ho x')) → (∀ x', St x' → K' (.bool false) (Hc ++ Ho x')) → YieldV Try.prog l [v] (Hc ++ Ho z) K' := fun j z v K' hj hv hi ht hf => by
    subst hv
    refine (hy j z [.int .u64 (bitN x.num (255 - j) : Nat)] (by rw [List.getElem?_map, List.getElem?_range hj]; rfl) hi).frame ?_ ?_
    · rintro v H' (⟨rfl, x', _, rfl⟩ | ⟨rfl, x', _, rfl⟩) <;> exact hro z x'
    · rintro v H' (⟨rfl, x', h, rfl⟩ | ⟨rfl, x', h, rfl⟩)
      · exact ht x' h
      · exact hf x' h
  have yf : ∀ (x' : X), (I ((List.range 256).map fun j => [Value.int .u64 (bitN x.num (255 - j) : Nat)]).length x' ∨ St x') → ∃ H'_1, List.Sublist H'_1 (dropM (Hc ++ Ho x')) ∧ ∃ z, (I ((List.range 256).map fun j => [Value.int .u64 (bitN x.num (255 - j) : Nat)]).length z ∨ St z) ∧ H'_1 = Ho z := fun x' hst => by
    refine ⟨Ho x', ?_, x', hst, rfl⟩
    rw [dropM_eq (hmarks x')]
    exact List.sublist_append_right _ _
  obtain ⟨vs, hvs⟩ : ∃ vs, vs = (List.range 256).map fun j => [Value.int .u64 (bitN x.num (255 - j) : Nat)] := ⟨_, rfl⟩
  have hvl : vs.length = 256 := by rw [hvs]; simp
  rw [← hvs] at yf ⊢
  refine callsO gW_ok Try.mix Try.pl56 Try.func56 rfl Try.ntmps56 Try.results56 rfl (by first | rfl | assumption) (Nat.le_of_ble_eq_true rfl) (by kernel_rfl) ?_
  simp only [push_cast, Nat.reduceAdd, Nat.reduceSub, Nat.reduceMul, Nat.reduceLT, Nat.reduceLeDiff, Nat.reduceEqDiff, Nat.reduceMod, Nat.reduceDiv, Int.reduceAdd, Int.reduceSub, Int.reduceMul, Int.reduceLT, Int.reduceLE, Int.reduceEq, Int.reduceNeg, Int.reduceToNat, reduceIte, reduceCtorEq, h']
  refine loopO gW_ok (pl := Try.pl56) Try.mix (X := Nat × X)
    (fun s => ([(0, .func (.yield l) #[] #[]), (1, .pointer (some ⟨bn, 0, none⟩)), (3, .int .i64 (3 - (s.1 : Int)))], Hc ++ Ho s.2))
    (fun s => s.1 ≤ 4 ∧ I (64 * s.1) s.2) (fun s => 4 - s.1) (0, x0) ?_ ?_ (by kernel_rfl) ?_
  · exact ⟨by dsimp only; omega, h0⟩
  · simp only [push_cast, Nat.reduceAdd, Nat.reduceSub, Nat.reduceMul, Nat.reduceLT, Nat.reduceLeDiff, Nat.reduceEqDiff, Nat.reduceMod, Nat.reduceDiv, Int.reduceAdd, Int.reduceSub, Int.reduceMul, Int.reduceLT, Int.reduceLE, Int.reduceEq, Int.reduceNeg, Int.reduceToNat, reduceIte, reduceCtorEq, hm0, subH_self]
  · rintro ⟨m, z⟩ ⟨hm, hi⟩
    dsimp only at hm hi ⊢
    obtain rfl | rfl | rfl | rfl | rfl : m = 0 ∨ m = 1 ∨ m = 2 ∨ m = 3 ∨ m = 4 := by omega
    · simp only [push_cast, Nat.reduceAdd, Nat.reduceSub, Nat.reduceMul, Nat.reduceLT, Nat.reduceLeDiff, Nat.reduceEqDiff, Nat.reduceMod, Nat.reduceDiv, Int.reduceAdd, Int.reduceSub, Int.reduceMul, Int.reduceLT, Int.reduceLE, Int.reduceEq, Int.reduceNeg, Int.reduceToNat, reduceIte, reduceCtorEq, h']
      refine loopO gW_ok (pl := Try.pl56) Try.mix (X := Nat × X)
        (fun s => ([(0, .func (.yield l) #[] #[]), (1, .pointer (some ⟨bn, 0, none⟩)), (3, .int .i64 3), (4, .int .i64 ((s.1 : Int) - 1))], Hc ++ Ho s.2))
        (fun s => s.1 ≤ 64 ∧ I ((64 - s.1)) s.2) (fun s => s.1) (64, z) ?_ ?_ (by kernel_rfl) ?_
      · exact ⟨Nat.le_refl _, hi⟩
      · simp only [push_cast, Nat.reduceAdd, Nat.reduceSub, Nat.reduceMul, Nat.reduceLT, Nat.reduceLeDiff, Nat.reduceEqDiff, Nat.reduceMod, Nat.reduceDiv, Int.reduceAdd, Int.reduceSub, Int.reduceMul, Int.reduceLT, Int.reduceLE, Int.reduceEq, Int.reduceNeg, Int.reduceToNat, reduceIte, reduceCtorEq, hmarks, subH_self]
      · rintro ⟨r, z⟩ ⟨hr, hi⟩
        dsimp only at hr hi ⊢
        cases r with
        | zero =>
          simp only [push_cast, Nat.reduceAdd, Nat.reduceSub, Nat.reduceMul, Nat.reduceLT, Nat.reduceLeDiff, Nat.reduceEqDiff, Nat.reduceMod, Nat.reduceDiv, Int.reduceAdd, Int.reduceSub, Int.reduceMul, Int.reduceLT, Int.reduceLE, Int.reduceEq, Int.reduceNeg, Int.reduceToNat, reduceIte, reduceCtorEq]
          exact ⟨(1, z), ⟨by dsimp only; omega, hi⟩, by dsimp only; omega, ⟨rfl, subH_self _, by simp only [hmarks]⟩⟩
        | succ k =>
          have er : ((k + 1 : Nat) : Int) - 1 = (k : Int) := by omega
          have hb := bit_at x.w.d (k := k) x.w.hd (by omega)
          simp only [push_cast, Nat.reduceAdd, Nat.reduceSub, Nat.reduceMul, Nat.reduceLT, Nat.reduceLeDiff, Nat.reduceEqDiff, Nat.reduceMod, Nat.reduceDiv, Int.reduceAdd, Int.reduceSub, Int.reduceMul, Int.reduceLT, Int.reduceLE, Int.reduceEq, Int.reduceNeg, Int.reduceToNat, reduceIte, reduceCtorEq, er, h', hb]
          refine yl ((63 - k)) z _ _ (by omega) ?_ ?_ (fun x' hx' => ?_) (fun x' hx' => ?_)
          · rw [hb, show 255 - ((63 - k)) = 192 + k by omega]; exact W1_bit3 x (by omega)
          · rw [show (63 - k) = (64 - (k + 1)) by omega]; exact hi
          · simp only [push_cast, Nat.reduceAdd, Nat.reduceSub, Nat.reduceMul, Nat.reduceLT, Nat.reduceLeDiff, Nat.reduceEqDiff, Nat.reduceMod, Nat.reduceDiv, Int.reduceAdd, Int.reduceSub, Int.reduceMul, Int.reduceLT, Int.reduceLE, Int.reduceEq, Int.reduceNeg, Int.reduceToNat, reduceIte, reduceCtorEq, er, wrap_i64' (show -9223372036854775808 ≤ (k : Int) - 1 ∧ (k : Int) - 1 ≤ 9223372036854775807 by omega)]
            refine ⟨(k, x'), ⟨by dsimp only; omega, ?_⟩, by dsimp only; omega, ⟨rfl, subH_self _, by simp only [hmarks]⟩⟩
            rw [show (63 - k) + 1 = (64 - k) by omega] at hx'
            exact hx'
          · simp only [push_cast, Nat.reduceAdd, Nat.reduceSub, Nat.reduceMul, Nat.reduceLT, Nat.reduceLeDiff, Nat.reduceEqDiff, Nat.reduceMod, Nat.reduceDiv, Int.reduceAdd, Int.reduceSub, Int.reduceMul, Int.reduceLT, Int.reduceLE, Int.reduceEq, Int.reduceNeg, Int.reduceToNat, reduceIte, reduceCtorEq, er]
            exact yf x' (.inr hx')
    · simp only [push_cast, Nat.reduceAdd, Nat.reduceSub, Nat.reduceMul, Nat.reduceLT, Nat.reduceLeDiff, Nat.reduceEqDiff, Nat.reduceMod, Nat.reduceDiv, Int.reduceAdd, Int.reduceSub, Int.reduceMul, Int.reduceLT, Int.reduceLE, Int.reduceEq, Int.reduceNeg, Int.reduceToNat, reduceIte, reduceCtorEq, h']
      refine loopO gW_ok (pl := Try.pl56) Try.mix (X := Nat × X)
        (fun s => ([(0, .func (.yield l) #[] #[]), (1, .pointer (some ⟨bn, 0, none⟩)), (3, .int .i64 2), (4, .int .i64 ((s.1 : Int) - 1))], Hc ++ Ho s.2))
        (fun s => s.1 ≤ 64 ∧ I (64 + (64 - s.1)) s.2) (fun s => s.1) (64, z) ?_ ?_ (by kernel_rfl) ?_
      · exact ⟨Nat.le_refl _, hi⟩
      · simp only [push_cast, Nat.reduceAdd, Nat.reduceSub, Nat.reduceMul, Nat.reduceLT, Nat.reduceLeDiff, Nat.reduceEqDiff, Nat.reduceMod, Nat.reduceDiv, Int.reduceAdd, Int.reduceSub, Int.reduceMul, Int.reduceLT, Int.reduceLE, Int.reduceEq, Int.reduceNeg, Int.reduceToNat, reduceIte, reduceCtorEq, hmarks, subH_self]
      · rintro ⟨r, z⟩ ⟨hr, hi⟩
        dsimp only at hr hi ⊢
        cases r with
        | zero =>
          simp only [push_cast, Nat.reduceAdd, Nat.reduceSub, Nat.reduceMul, Nat.reduceLT, Nat.reduceLeDiff, Nat.reduceEqDiff, Nat.reduceMod, Nat.reduceDiv, Int.reduceAdd, Int.reduceSub, Int.reduceMul, Int.reduceLT, Int.reduceLE, Int.reduceEq, Int.reduceNeg, Int.reduceToNat, reduceIte, reduceCtorEq]
          exact ⟨(2, z), ⟨by dsimp only; omega, hi⟩, by dsimp only; omega, ⟨rfl, subH_self _, by simp only [hmarks]⟩⟩
        | succ k =>
          have er : ((k + 1 : Nat) : Int) - 1 = (k : Int) := by omega
          have hb := bit_at x.w.c (k := k) x.w.hc (by omega)
          simp only [push_cast, Nat.reduceAdd, Nat.reduceSub, Nat.reduceMul, Nat.reduceLT, Nat.reduceLeDiff, Nat.reduceEqDiff, Nat.reduceMod, Nat.reduceDiv, Int.reduceAdd, Int.reduceSub, Int.reduceMul, Int.reduceLT, Int.reduceLE, Int.reduceEq, Int.reduceNeg, Int.reduceToNat, reduceIte, reduceCtorEq, er, h', hb]
          refine yl (64 + (63 - k)) z _ _ (by omega) ?_ ?_ (fun x' hx' => ?_) (fun x' hx' => ?_)
          · rw [hb, show 255 - (64 + (63 - k)) = 128 + k by omega]; exact W1_bit2 x (by omega)
          · rw [show 64 + (63 - k) = 64 + (64 - (k + 1)) by omega]; exact hi
          · simp only [push_cast, Nat.reduceAdd, Nat.reduceSub, Nat.reduceMul, Nat.reduceLT, Nat.reduceLeDiff, Nat.reduceEqDiff, Nat.reduceMod, Nat.reduceDiv, Int.reduceAdd, Int.reduceSub, Int.reduceMul, Int.reduceLT, Int.reduceLE, Int.reduceEq, Int.reduceNeg, Int.reduceToNat, reduceIte, reduceCtorEq, er, wrap_i64' (show -9223372036854775808 ≤ (k : Int) - 1 ∧ (k : Int) - 1 ≤ 9223372036854775807 by omega)]
            refine ⟨(k, x'), ⟨by dsimp only; omega, ?_⟩, by dsimp only; omega, ⟨rfl, subH_self _, by simp only [hmarks]⟩⟩
            rw [show 64 + (63 - k) + 1 = 64 + (64 - k) by omega] at hx'
            exact hx'
          · simp only [push_cast, Nat.reduceAdd, Nat.reduceSub, Nat.reduceMul, Nat.reduceLT, Nat.reduceLeDiff, Nat.reduceEqDiff, Nat.reduceMod, Nat.reduceDiv, Int.reduceAdd, Int.reduceSub, Int.reduceMul, Int.reduceLT, Int.reduceLE, Int.reduceEq, Int.reduceNeg, Int.reduceToNat, reduceIte, reduceCtorEq, er]
            exact yf x' (.inr hx')
    · simp only [push_cast, Nat.reduceAdd, Nat.reduceSub, Nat.reduceMul, Nat.reduceLT, Nat.reduceLeDiff, Nat.reduceEqDiff, Nat.reduceMod, Nat.reduceDiv, Int.reduceAdd, Int.reduceSub, Int.reduceMul, Int.reduceLT, Int.reduceLE, Int.reduceEq, Int.reduceNeg, Int.reduceToNat, reduceIte, reduceCtorEq, h']
      refine loopO gW_ok (pl := Try.pl56) Try.mix (X := Nat × X)
        (fun s => ([(0, .func (.yield l) #[] #[]), (1, .pointer (some ⟨bn, 0, none⟩)), (3, .int .i64 1), (4, .int .i64 ((s.1 : Int) - 1))], Hc ++ Ho s.2))
        (fun s => s.1 ≤ 64 ∧ I (128 + (64 - s.1)) s.2) (fun s => s.1) (64, z) ?_ ?_ (by kernel_rfl) ?_
      · exact ⟨Nat.le_refl _, hi⟩
      · simp only [push_cast, Nat.reduceAdd, Nat.reduceSub, Nat.reduceMul, Nat.reduceLT, Nat.reduceLeDiff, Nat.reduceEqDiff, Nat.reduceMod, Nat.reduceDiv, Int.reduceAdd, Int.reduceSub, Int.reduceMul, Int.reduceLT, Int.reduceLE, Int.reduceEq, Int.reduceNeg, Int.reduceToNat, reduceIte, reduceCtorEq, hmarks, subH_self]
      · rintro ⟨r, z⟩ ⟨hr, hi⟩
        dsimp only at hr hi ⊢
        cases r with
        | zero =>
          simp only [push_cast, Nat.reduceAdd, Nat.reduceSub, Nat.reduceMul, Nat.reduceLT, Nat.reduceLeDiff, Nat.reduceEqDiff, Nat.reduceMod, Nat.reduceDiv, Int.reduceAdd, Int.reduceSub, Int.reduceMul, Int.reduceLT, Int.reduceLE, Int.reduceEq, Int.reduceNeg, Int.reduceToNat, reduceIte, reduceCtorEq]
          exact ⟨(3, z), ⟨by dsimp only; omega, hi⟩, by dsimp only; omega, ⟨rfl, subH_self _, by simp only [hmarks]⟩⟩
        | succ k =>
          have er : ((k + 1 : Nat) : Int) - 1 = (k : Int) := by omega
          have hb := bit_at x.w.b (k := k) x.w.hb (by omega)
          simp only [push_cast, Nat.reduceAdd, Nat.reduceSub, Nat.reduceMul, Nat.reduceLT, Nat.reduceLeDiff, Nat.reduceEqDiff, Nat.reduceMod, Nat.reduceDiv, Int.reduceAdd, Int.reduceSub, Int.reduceMul, Int.reduceLT, Int.reduceLE, Int.reduceEq, Int.reduceNeg, Int.reduceToNat, reduceIte, reduceCtorEq, er, h', hb]
          refine yl (128 + (63 - k)) z _ _ (by omega) ?_ ?_ (fun x' hx' => ?_) (fun x' hx' => ?_)
          · rw [hb, show 255 - (128 + (63 - k)) = 64 + k by omega]; exact W1_bit1 x (by omega)
          · rw [show 128 + (63 - k) = 128 + (64 - (k + 1)) by omega]; exact hi
          · simp only [push_cast, Nat.reduceAdd, Nat.reduceSub, Nat.reduceMul, Nat.reduceLT, Nat.reduceLeDiff, Nat.reduceEqDiff, Nat.reduceMod, Nat.reduceDiv, Int.reduceAdd, Int.reduceSub, Int.reduceMul, Int.reduceLT, Int.reduceLE, Int.reduceEq, Int.reduceNeg, Int.reduceToNat, reduceIte, reduceCtorEq, er, wrap_i64' (show -9223372036854775808 ≤ (k : Int) - 1 ∧ (k : Int) - 1 ≤ 9223372036854775807 by omega)]
            refine ⟨(k, x'), ⟨by dsimp only; omega, ?_⟩, by dsimp only; omega, ⟨rfl, subH_self _, by simp only [hmarks]⟩⟩
            rw [show 128 + (63 - k) + 1 = 128 + (64 - k) by omega] at hx'
            exact hx'
          · simp only [push_cast, Nat.reduceAdd, Nat.reduceSub, Nat.reduceMul, Nat.reduceLT, Nat.reduceLeDiff, Nat.reduceEqDiff, Nat.reduceMod, Nat.reduceDiv, Int.reduceAdd, Int.reduceSub, Int.reduceMul, Int.reduceLT, Int.reduceLE, Int.reduceEq, Int.reduceNeg, Int.reduceToNat, reduceIte, reduceCtorEq, er]
            exact yf x' (.inr hx')
    · simp only [push_cast, Nat.reduceAdd, Nat.reduceSub, Nat.reduceMul, Nat.reduceLT, Nat.reduceLeDiff, Nat.reduceEqDiff, Nat.reduceMod, Nat.reduceDiv, Int.reduceAdd, Int.reduceSub, Int.reduceMul, Int.reduceLT, Int.reduceLE, Int.reduceEq, Int.reduceNeg, Int.reduceToNat, reduceIte, reduceCtorEq, h']
      refine loopO gW_ok (pl := Try.pl56) Try.mix (X := Nat × X)
        (fun s => ([(0, .func (.yield l) #[] #[]), (1, .pointer (some ⟨bn, 0, none⟩)), (3, .int .i64 0), (4, .int .i64 ((s.1 : Int) - 1))], Hc ++ Ho s.2))
        (fun s => s.1 ≤ 64 ∧ I (192 + (64 - s.1)) s.2) (fun s => s.1) (64, z) ?_ ?_ (by kernel_rfl) ?_
      · exact ⟨Nat.le_refl _, hi⟩
      · simp only [push_cast, Nat.reduceAdd, Nat.reduceSub, Nat.reduceMul, Nat.reduceLT, Nat.reduceLeDiff, Nat.reduceEqDiff, Nat.reduceMod, Nat.reduceDiv, Int.reduceAdd, Int.reduceSub, Int.reduceMul, Int.reduceLT, Int.reduceLE, Int.reduceEq, Int.reduceNeg, Int.reduceToNat, reduceIte, reduceCtorEq, hmarks, subH_self]
      · rintro ⟨r, z⟩ ⟨hr, hi⟩
        dsimp only at hr hi ⊢
        cases r with
        | zero =>
          simp only [push_cast, Nat.reduceAdd, Nat.reduceSub, Nat.reduceMul, Nat.reduceLT, Nat.reduceLeDiff, Nat.reduceEqDiff, Nat.reduceMod, Nat.reduceDiv, Int.reduceAdd, Int.reduceSub, Int.reduceMul, Int.reduceLT, Int.reduceLE, Int.reduceEq, Int.reduceNeg, Int.reduceToNat, reduceIte, reduceCtorEq]
          exact ⟨(4, z), ⟨by dsimp only; omega, hi⟩, by dsimp only; omega, ⟨rfl, subH_self _, by simp only [hmarks]⟩⟩
        | succ k =>
          have er : ((k + 1 : Nat) : Int) - 1 = (k : Int) := by omega
          have hb := bit_at x.w.a (k := k) x.w.ha (by omega)
          simp only [push_cast, Nat.reduceAdd, Nat.reduceSub, Nat.reduceMul, Nat.reduceLT, Nat.reduceLeDiff, Nat.reduceEqDiff, Nat.reduceMod, Nat.reduceDiv, Int.reduceAdd, Int.reduceSub, Int.reduceMul, Int.reduceLT, Int.reduceLE, Int.reduceEq, Int.reduceNeg, Int.reduceToNat, reduceIte, reduceCtorEq, er, h', hb]
          refine yl (192 + (63 - k)) z _ _ (by omega) ?_ ?_ (fun x' hx' => ?_) (fun x' hx' => ?_)
          · rw [hb, show 255 - (192 + (63 - k)) = 0 + k by omega]; exact W1_bit0 x (by omega)
          · rw [show 192 + (63 - k) = 192 + (64 - (k + 1)) by omega]; exact hi
          · simp only [push_cast, Nat.reduceAdd, Nat.reduceSub, Nat.reduceMul, Nat.reduceLT, Nat.reduceLeDiff, Nat.reduceEqDiff, Nat.reduceMod, Nat.reduceDiv, Int.reduceAdd, Int.reduceSub, Int.reduceMul, Int.reduceLT, Int.reduceLE, Int.reduceEq, Int.reduceNeg, Int.reduceToNat, reduceIte, reduceCtorEq, er, wrap_i64' (show -9223372036854775808 ≤ (k : Int) - 1 ∧ (k : Int) - 1 ≤ 9223372036854775807 by omega)]
            refine ⟨(k, x'), ⟨by dsimp only; omega, ?_⟩, by dsimp only; omega, ⟨rfl, subH_self _, by simp only [hmarks]⟩⟩
            rw [show 192 + (63 - k) + 1 = 192 + (64 - k) by omega] at hx'
            exact hx'
          · simp only [push_cast, Nat.reduceAdd, Nat.reduceSub, Nat.reduceMul, Nat.reduceLT, Nat.reduceLeDiff, Nat.reduceEqDiff, Nat.reduceMod, Nat.reduceDiv, Int.reduceAdd, Int.reduceSub, Int.reduceMul, Int.reduceLT, Int.reduceLE, Int.reduceEq, Int.reduceNeg, Int.reduceToNat, reduceIte, reduceCtorEq, er]
            exact yf x' (.inr hx')
    · simp only [push_cast, Nat.reduceAdd, Nat.reduceSub, Nat.reduceMul, Nat.reduceLT, Nat.reduceLeDiff, Nat.reduceEqDiff, Nat.reduceMod, Nat.reduceDiv, Int.reduceAdd, Int.reduceSub, Int.reduceMul, Int.reduceLT, Int.reduceLE, Int.reduceEq, Int.reduceNeg, Int.reduceToNat, reduceIte, reduceCtorEq]
      exact yf z (.inl (by rw [hvl]; exact hi))
theorem ones2_ok {Hc : Hp} {x : W8} {bn : Nat} {kd : Kind} (hmc : marksOf Hc = []) (h : findE Hc bn = some ⟨bn, 0, kd, x.cells⟩) :
    IterV Try.prog 61 [.pointer (some ⟨bn, 0, none⟩)] Hc ((List.range 512).map fun j => [.int .u64 (bitN x.num (511 - j) : Nat)]) := by
  refine ⟨enterO Try.func61 rfl rfl, fun X Ho I St l x0 hro hmk h0 hy => ?_⟩
  have hmarks : ∀ x, marksOf (Hc ++ Ho x) = [] := fun x => by rw [marks_append, hmc, hmk]; rfl
  have hm0 := hmarks x0
  have h' := fun z => findE_left (B := Ho z) h
  have yl : ∀ (j : Nat) (z : X) (v : Value) (K' : Value → Hp → Prop), j < 512 → v = .int .u64 (bitN x.num (511 - j) : Nat) → I j z → (∀ x', I (j + 1) x' → K' (.bool true) (Hc ++ Ho x')) → (∀ x', St x' → K' (.bool false) (Hc ++ Ho x')) → YieldV Try.prog l [v] (Hc ++ Ho z) K' := fun j z v K' hj hv hi ht hf => by
    subst hv
    refine (hy j z [.int .u64 (bitN x.num (511 - j) : Nat)] (by rw [List.getElem?_map, List.getElem?_range hj]; rfl) hi).frame ?_ ?_
    · rintro v H' (⟨rfl, x', _, rfl⟩ | ⟨rfl, x', _, rfl⟩) <;> exact hro z x'
    · rintro v H' (⟨rfl, x', h, rfl⟩ | ⟨rfl, x', h, rfl⟩)
      · exact ht x' h
      · exact hf x' h
  have yf : ∀ (x' : X), (I ((List.range 512).map fun j => [Value.int .u64 (bitN x.num (511 - j) : Nat)]).length x' ∨ St x') → ∃ H'_1, List.Sublist H'_1 (dropM (Hc ++ Ho x')) ∧ ∃ z, (I ((List.range 512).map fun j => [Value.int .u64 (bitN x.num (511 - j) : Nat)]).length z ∨ St z) ∧ H'_1 = Ho z := fun x' hst => by
    refine ⟨Ho x', ?_, x', hst, rfl⟩
    rw [dropM_eq (hmarks x')]
    exact List.sublist_append_right _ _
  obtain ⟨vs, hvs⟩ : ∃ vs, vs = (List.range 512).map fun j => [Value.int .u64 (bitN x.num (511 - j) : Nat)] := ⟨_, rfl⟩
  have hvl : vs.length = 512 := by rw [hvs]; simp
  rw [← hvs] at yf ⊢
  refine callsO gW_ok Try.mix Try.pl61 Try.func61 rfl Try.ntmps61 Try.results61 rfl (by first | rfl | assumption) (Nat.le_of_ble_eq_true rfl) (by kernel_rfl) ?_
  simp only [push_cast, Nat.reduceAdd, Nat.reduceSub, Nat.reduceMul, Nat.reduceLT, Nat.reduceLeDiff, Nat.reduceEqDiff, Nat.reduceMod, Nat.reduceDiv, Int.reduceAdd, Int.reduceSub, Int.reduceMul, Int.reduceLT, Int.reduceLE, Int.reduceEq, Int.reduceNeg, Int.reduceToNat, reduceIte, reduceCtorEq, h']
  refine loopO gW_ok (pl := Try.pl61) Try.mix (X := Nat × X)
    (fun s => ([(0, .func (.yield l) #[] #[]), (1, .pointer (some ⟨bn, 0, none⟩)), (3, .int .i64 (7 - (s.1 : Int)))], Hc ++ Ho s.2))
    (fun s => s.1 ≤ 8 ∧ I (64 * s.1) s.2) (fun s => 8 - s.1) (0, x0) ?_ ?_ (by kernel_rfl) ?_
  · exact ⟨by dsimp only; omega, h0⟩
  · simp only [push_cast, Nat.reduceAdd, Nat.reduceSub, Nat.reduceMul, Nat.reduceLT, Nat.reduceLeDiff, Nat.reduceEqDiff, Nat.reduceMod, Nat.reduceDiv, Int.reduceAdd, Int.reduceSub, Int.reduceMul, Int.reduceLT, Int.reduceLE, Int.reduceEq, Int.reduceNeg, Int.reduceToNat, reduceIte, reduceCtorEq, hm0, subH_self]
  · rintro ⟨m, z⟩ ⟨hm, hi⟩
    dsimp only at hm hi ⊢
    obtain rfl | rfl | rfl | rfl | rfl | rfl | rfl | rfl | rfl : m = 0 ∨ m = 1 ∨ m = 2 ∨ m = 3 ∨ m = 4 ∨ m = 5 ∨ m = 6 ∨ m = 7 ∨ m = 8 := by omega
    · simp only [push_cast, Nat.reduceAdd, Nat.reduceSub, Nat.reduceMul, Nat.reduceLT, Nat.reduceLeDiff, Nat.reduceEqDiff, Nat.reduceMod, Nat.reduceDiv, Int.reduceAdd, Int.reduceSub, Int.reduceMul, Int.reduceLT, Int.reduceLE, Int.reduceEq, Int.reduceNeg, Int.reduceToNat, reduceIte, reduceCtorEq, h']
      refine loopO gW_ok (pl := Try.pl61) Try.mix (X := Nat × X)
        (fun s => ([(0, .func (.yield l) #[] #[]), (1, .pointer (some ⟨bn, 0, none⟩)), (3, .int .i64 7), (4, .int .i64 ((s.1 : Int) - 1))], Hc ++ Ho s.2))
        (fun s => s.1 ≤ 64 ∧ I ((64 - s.1)) s.2) (fun s => s.1) (64, z) ?_ ?_ (by kernel_rfl) ?_
      · exact ⟨Nat.le_refl _, hi⟩
      · simp only [push_cast, Nat.reduceAdd, Nat.reduceSub, Nat.reduceMul, Nat.reduceLT, Nat.reduceLeDiff, Nat.reduceEqDiff, Nat.reduceMod, Nat.reduceDiv, Int.reduceAdd, Int.reduceSub, Int.reduceMul, Int.reduceLT, Int.reduceLE, Int.reduceEq, Int.reduceNeg, Int.reduceToNat, reduceIte, reduceCtorEq, hmarks, subH_self]
      · rintro ⟨r, z⟩ ⟨hr, hi⟩
        dsimp only at hr hi ⊢
        cases r with
        | zero =>
          simp only [push_cast, Nat.reduceAdd, Nat.reduceSub, Nat.reduceMul, Nat.reduceLT, Nat.reduceLeDiff, Nat.reduceEqDiff, Nat.reduceMod, Nat.reduceDiv, Int.reduceAdd, Int.reduceSub, Int.reduceMul, Int.reduceLT, Int.reduceLE, Int.reduceEq, Int.reduceNeg, Int.reduceToNat, reduceIte, reduceCtorEq]
          exact ⟨(1, z), ⟨by dsimp only; omega, hi⟩, by dsimp only; omega, ⟨rfl, subH_self _, by simp only [hmarks]⟩⟩
        | succ k =>
          have er : ((k + 1 : Nat) : Int) - 1 = (k : Int) := by omega
          have hb := bit_at x.hi.d (k := k) x.hi.hd (by omega)
          simp only [push_cast, Nat.reduceAdd, Nat.reduceSub, Nat.reduceMul, Nat.reduceLT, Nat.reduceLeDiff, Nat.reduceEqDiff, Nat.reduceMod, Nat.reduceDiv, Int.reduceAdd, Int.reduceSub, Int.reduceMul, Int.reduceLT, Int.reduceLE, Int.reduceEq, Int.reduceNeg, Int.reduceToNat, reduceIte, reduceCtorEq, er, h', hb]
          refine yl ((63 - k)) z _ _ (by omega) ?_ ?_ (fun x' hx' => ?_) (fun x' hx' => ?_)
          · rw [hb, show 511 - ((63 - k)) = 448 + k by omega]; exact W8_bit7 x (by omega)
          · rw [show (63 - k) = (64 - (k + 1)) by omega]; exact hi
          · simp only [push_cast, Nat.reduceAdd, Nat.reduceSub, Nat.reduceMul, Nat.reduceLT, Nat.reduceLeDiff, Nat.reduceEqDiff, Nat.reduceMod, Nat.reduceDiv, Int.reduceAdd, Int.reduceSub, Int.reduceMul, Int.reduceLT, Int.reduceLE, Int.reduceEq, Int.reduceNeg, Int.reduceToNat, reduceIte, reduceCtorEq, er, wrap_i64' (show -9223372036854775808 ≤ (k : Int) - 1 ∧ (k : Int) - 1 ≤ 9223372036854775807 by omega)]
            refine ⟨(k, x'), ⟨by dsimp only; omega, ?_⟩, by dsimp only; omega, ⟨rfl, subH_self _, by simp only [hmarks]⟩⟩
            rw [show (63 - k) + 1 = (64 - k) by omega] at hx'
            exact hx'
          · simp only [push_cast, Nat.reduceAdd, Nat.reduceSub, Nat.reduceMul, Nat.reduceLT, Nat.reduceLeDiff, Nat.reduceEqDiff, Nat.reduceMod, Nat.reduceDiv, Int.reduceAdd, Int.reduceSub, Int.reduceMul, Int.reduceLT, Int.reduceLE, Int.reduceEq, Int.reduceNeg, Int.reduceToNat, reduceIte, reduceCtorEq, er]
            exact yf x' (.inr hx')
    · simp only [push_cast, Nat.reduceAdd, Nat.reduceSub, Nat.reduceMul, Nat.reduceLT, Nat.reduceLeDiff, Nat.reduceEqDiff, Nat.reduceMod, Nat.reduceDiv, Int.reduceAdd, Int.reduceSub, Int.reduceMul, Int.reduceLT, Int.reduceLE, Int.reduceEq, Int.reduceNeg, Int.reduceToNat, reduceIte, reduceCtorEq, h']
      refine loopO gW_ok (pl := Try.pl61) Try.mix (X := Nat × X)
        (fun s => ([(0, .func (.yield l) #[] #[]), (1, .pointer (some ⟨bn, 0, none⟩)), (3, .int .i64 6), (4, .int .i64 ((s.1 : Int) - 1))], Hc ++ Ho s.2))
        (fun s => s.1 ≤ 64 ∧ I (64 + (64 - s.1)) s.2) (fun s => s.1) (64, z) ?_ ?_ (by kernel_rfl) ?_
      · exact ⟨Nat.le_refl _, hi⟩
      · simp only [push_cast, Nat.reduceAdd, Nat.reduceSub, Nat.reduceMul, Nat.reduceLT, Nat.reduceLeDiff, Nat.reduceEqDiff, Nat.reduceMod, Nat.reduceDiv, Int.reduceAdd, Int.reduceSub, Int.reduceMul, Int.reduceLT, Int.reduceLE, Int.reduceEq, Int.reduceNeg, Int.reduceToNat, reduceIte, reduceCtorEq, hmarks, subH_self]
      · rintro ⟨r, z⟩ ⟨hr, hi⟩
        dsimp only at hr hi ⊢
        cases r with
        | zero =>
          simp only [push_cast, Nat.reduceAdd, Nat.reduceSub, Nat.reduceMul, Nat.reduceLT, Nat.reduceLeDiff, Nat.reduceEqDiff, Nat.reduceMod, Nat.reduceDiv, Int.reduceAdd, Int.reduceSub, Int.reduceMul, Int.reduceLT, Int.reduceLE, Int.reduceEq, Int.reduceNeg, Int.reduceToNat, reduceIte, reduceCtorEq]
          exact ⟨(2, z), ⟨by dsimp only; omega, hi⟩, by dsimp only; omega, ⟨rfl, subH_self _, by simp only [hmarks]⟩⟩
        | succ k =>
          have er : ((k + 1 : Nat) : Int) - 1 = (k : Int) := by omega
          have hb := bit_at x.hi.c (k := k) x.hi.hc (by omega)
          simp only [push_cast, Nat.reduceAdd, Nat.reduceSub, Nat.reduceMul, Nat.reduceLT, Nat.reduceLeDiff, Nat.reduceEqDiff, Nat.reduceMod, Nat.reduceDiv, Int.reduceAdd, Int.reduceSub, Int.reduceMul, Int.reduceLT, Int.reduceLE, Int.reduceEq, Int.reduceNeg, Int.reduceToNat, reduceIte, reduceCtorEq, er, h', hb]
          refine yl (64 + (63 - k)) z _ _ (by omega) ?_ ?_ (fun x' hx' => ?_) (fun x' hx' => ?_)
          · rw [hb, show 511 - (64 + (63 - k)) = 384 + k by omega]; exact W8_bit6 x (by omega)
          · rw [show 64 + (63 - k) = 64 + (64 - (k + 1)) by omega]; exact hi
          · simp only [push_cast, Nat.reduceAdd, Nat.reduceSub, Nat.reduceMul, Nat.reduceLT, Nat.reduceLeDiff, Nat.reduceEqDiff, Nat.reduceMod, Nat.reduceDiv, Int.reduceAdd, Int.reduceSub, Int.reduceMul, Int.reduceLT, Int.reduceLE, Int.reduceEq, Int.reduceNeg, Int.reduceToNat, reduceIte, reduceCtorEq, er, wrap_i64' (show -9223372036854775808 ≤ (k : Int) - 1 ∧ (k : Int) - 1 ≤ 9223372036854775807 by omega)]
            refine ⟨(k, x'), ⟨by dsimp only; omega, ?_⟩, by dsimp only; omega, ⟨rfl, subH_self _, by simp only [hmarks]⟩⟩
            rw [show 64 + (63 - k) + 1 = 64 + (64 - k) by omega] at hx'
            exact hx'
          · simp only [push_cast, Nat.reduceAdd, Nat.reduceSub, Nat.reduceMul, Nat.reduceLT, Nat.reduceLeDiff, Nat.reduceEqDiff, Nat.reduceMod, Nat.reduceDiv, Int.reduceAdd, Int.reduceSub, Int.reduceMul, Int.reduceLT, Int.reduceLE, Int.reduceEq, Int.reduceNeg, Int.reduceToNat, reduceIte, reduceCtorEq, er]
            exact yf x' (.inr hx')
    · simp only [push_cast, Nat.reduceAdd, Nat.reduceSub, Nat.reduceMul, Nat.reduceLT, Nat.reduceLeDiff, Nat.reduceEqDiff, Nat.reduceMod, Nat.reduceDiv, Int.reduceAdd, Int.reduceSub, Int.reduceMul, Int.reduceLT, Int.reduceLE, Int.reduceEq, Int.reduceNeg, Int.reduceToNat, reduceIte, reduceCtorEq, h']
      refine loopO gW_ok (pl := Try.pl61) Try.mix (X := Nat × X)
        (fun s => ([(0, .func (.yield l) #[] #[]), (1, .pointer (some ⟨bn, 0, none⟩)), (3, .int .i64 5), (4, .int .i64 ((s.1 : Int) - 1))], Hc ++ Ho s.2))
        (fun s => s.1 ≤ 64 ∧ I (128 + (64 - s.1)) s.2) (fun s => s.1) (64, z) ?_ ?_ (by kernel_rfl) ?_
      · exact ⟨Nat.le_refl _, hi⟩
      · simp only [push_cast, Nat.reduceAdd, Nat.reduceSub, Nat.reduceMul, Nat.reduceLT, Nat.reduceLeDiff, Nat.reduceEqDiff, Nat.reduceMod, Nat.reduceDiv, Int.reduceAdd, Int.reduceSub, Int.reduceMul, Int.reduceLT, Int.reduceLE, Int.reduceEq, Int.reduceNeg, Int.reduceToNat, reduceIte, reduceCtorEq, hmarks, subH_self]
      · rintro ⟨r, z⟩ ⟨hr, hi⟩
        dsimp only at hr hi ⊢
        cases r with
        | zero =>
          simp only [push_cast, Nat.reduceAdd, Nat.reduceSub, Nat.reduceMul, Nat.reduceLT, Nat.reduceLeDiff, Nat.reduceEqDiff, Nat.reduceMod, Nat.reduceDiv, Int.reduceAdd, Int.reduceSub, Int.reduceMul, Int.reduceLT, Int.reduceLE, Int.reduceEq, Int.reduceNeg, Int.reduceToNat, reduceIte, reduceCtorEq]
          exact ⟨(3, z), ⟨by dsimp only; omega, hi⟩, by dsimp only; omega, ⟨rfl, subH_self _, by simp only [hmarks]⟩⟩
        | succ k =>
          have er : ((k + 1 : Nat) : Int) - 1 = (k : Int) := by omega
          have hb := bit_at x.hi.b (k := k) x.hi.hb (by omega)
          simp only [push_cast, Nat.reduceAdd, Nat.reduceSub, Nat.reduceMul, Nat.reduceLT, Nat.reduceLeDiff, Nat.reduceEqDiff, Nat.reduceMod, Nat.reduceDiv, Int.reduceAdd, Int.reduceSub, Int.reduceMul, Int.reduceLT, Int.reduceLE, Int.reduceEq, Int.reduceNeg, Int.reduceToNat, reduceIte, reduceCtorEq, er, h', hb]
          refine yl (128 + (63 - k)) z _ _ (by omega) ?_ ?_ (fun x' hx' => ?_) (fun x' hx' => ?_)
          · rw [hb, show 511 - (128 + (63 - k)) = 320 + k by omega]; exact W8_bit5 x (by omega)
          · rw [show 128 + (63 - k) = 128 + (64 - (k + 1)) by omega]; exact hi
          · simp only [push_cast, Nat.reduceAdd, Nat.reduceSub, Nat.reduceMul, Nat.reduceLT, Nat.reduceLeDiff, Nat.reduceEqDiff, Nat.reduceMod, Nat.reduceDiv, Int.reduceAdd, Int.reduceSub, Int.reduceMul, Int.reduceLT, Int.reduceLE, Int.reduceEq, Int.reduceNeg, Int.reduceToNat, reduceIte, reduceCtorEq, er, wrap_i64' (show -9223372036854775808 ≤ (k : Int) - 1 ∧ (k : Int) - 1 ≤ 9223372036854775807 by omega)]
            refine ⟨(k, x'), ⟨by dsimp only; omega, ?_⟩, by dsimp only; omega, ⟨rfl, subH_self _, by simp only [hmarks]⟩⟩
            rw [show 128 + (63 - k) + 1 = 128 + (64 - k) by omega] at hx'
            exact hx'
          · simp only [push_cast, Nat.reduceAdd, Nat.reduceSub, Nat.reduceMul, Nat.reduceLT, Nat.reduceLeDiff, Nat.reduceEqDiff, Nat.reduceMod, Nat.reduceDiv, Int.reduceAdd, Int.reduceSub, Int.reduceMul, Int.reduceLT, Int.reduceLE, Int.reduceEq, Int.reduceNeg, Int.reduceToNat, reduceIte, reduceCtorEq, er]
            exact yf x' (.inr hx')
    · simp only [push_cast, Nat.reduceAdd, Nat.reduceSub, Nat.reduceMul, Nat.reduceLT, Nat.reduceLeDiff, Nat.reduceEqDiff, Nat.reduceMod, Nat.reduceDiv, Int.reduceAdd, Int.reduceSub, Int.reduceMul, Int.reduceLT, Int.reduceLE, Int.reduceEq, Int.reduceNeg, Int.reduceToNat, reduceIte, reduceCtorEq, h']
      refine loopO gW_ok (pl := Try.pl61) Try.mix (X := Nat × X)
        (fun s => ([(0, .func (.yield l) #[] #[]), (1, .pointer (some ⟨bn, 0, none⟩)), (3, .int .i64 4), (4, .int .i64 ((s.1 : Int) - 1))], Hc ++ Ho s.2))
        (fun s => s.1 ≤ 64 ∧ I (192 + (64 - s.1)) s.2) (fun s => s.1) (64, z) ?_ ?_ (by kernel_rfl) ?_
      · exact ⟨Nat.le_refl _, hi⟩
      · simp only [push_cast, Nat.reduceAdd, Nat.reduceSub, Nat.reduceMul, Nat.reduceLT, Nat.reduceLeDiff, Nat.reduceEqDiff, Nat.reduceMod, Nat.reduceDiv, Int.reduceAdd, Int.reduceSub, Int.reduceMul, Int.reduceLT, Int.reduceLE, Int.reduceEq, Int.reduceNeg, Int.reduceToNat, reduceIte, reduceCtorEq, hmarks, subH_self]
      · rintro ⟨r, z⟩ ⟨hr, hi⟩
        dsimp only at hr hi ⊢
        cases r with
        | zero =>
          simp only [push_cast, Nat.reduceAdd, Nat.reduceSub, Nat.reduceMul, Nat.reduceLT, Nat.reduceLeDiff, Nat.reduceEqDiff, Nat.reduceMod, Nat.reduceDiv, Int.reduceAdd, Int.reduceSub, Int.reduceMul, Int.reduceLT, Int.reduceLE, Int.reduceEq, Int.reduceNeg, Int.reduceToNat, reduceIte, reduceCtorEq]
          exact ⟨(4, z), ⟨by dsimp only; omega, hi⟩, by dsimp only; omega, ⟨rfl, subH_self _, by simp only [hmarks]⟩⟩
        | succ k =>
          have er : ((k + 1 : Nat) : Int) - 1 = (k : Int) := by omega
          have hb := bit_at x.hi.a (k := k) x.hi.ha (by omega)
          simp only [push_cast, Nat.reduceAdd, Nat.reduceSub, Nat.reduceMul, Nat.reduceLT, Nat.reduceLeDiff, Nat.reduceEqDiff, Nat.reduceMod, Nat.reduceDiv, Int.reduceAdd, Int.reduceSub, Int.reduceMul, Int.reduceLT, Int.reduceLE, Int.reduceEq, Int.reduceNeg, Int.reduceToNat, reduceIte, reduceCtorEq, er, h', hb]
          refine yl (192 + (63 - k)) z _ _ (by omega) ?_ ?_ (fun x' hx' => ?_) (fun x' hx' => ?_)
          · rw [hb, show 511 - (192 + (63 - k)) = 256 + k by omega]; exact W8_bit4 x (by omega)
          · rw [show 192 + (63 - k) = 192 + (64 - (k + 1)) by omega]; exact hi
          · simp only [push_cast, Nat.reduceAdd, Nat.reduceSub, Nat.reduceMul, Nat.reduceLT, Nat.reduceLeDiff, Nat.reduceEqDiff, Nat.reduceMod, Nat.reduceDiv, Int.reduceAdd, Int.reduceSub, Int.reduceMul, Int.reduceLT, Int.reduceLE, Int.reduceEq, Int.reduceNeg, Int.reduceToNat, reduceIte, reduceCtorEq, er, wrap_i64' (show -9223372036854775808 ≤ (k : Int) - 1 ∧ (k : Int) - 1 ≤ 9223372036854775807 by omega)]
            refine ⟨(k, x'), ⟨by dsimp only; omega, ?_⟩, by dsimp only; omega, ⟨rfl, subH_self _, by simp only [hmarks]⟩⟩
            rw [show 192 + (63 - k) + 1 = 192 + (64 - k) by omega] at hx'
            exact hx'
          · simp only [push_cast, Nat.reduceAdd, Nat.reduceSub, Nat.reduceMul, Nat.reduceLT, Nat.reduceLeDiff, Nat.reduceEqDiff, Nat.reduceMod, Nat.reduceDiv, Int.reduceAdd, Int.reduceSub, Int.reduceMul, Int.reduceLT, Int.reduceLE, Int.reduceEq, Int.reduceNeg, Int.reduceToNat, reduceIte, reduceCtorEq, er]
            exact yf x' (.inr hx')
    · simp only [push_cast, Nat.reduceAdd, Nat.reduceSub, Nat.reduceMul, Nat.reduceLT, Nat.reduceLeDiff, Nat.reduceEqDiff, Nat.reduceMod, Nat.reduceDiv, Int.reduceAdd, Int.reduceSub, Int.reduceMul, Int.reduceLT, Int.reduceLE, Int.reduceEq, Int.reduceNeg, Int.reduceToNat, reduceIte, reduceCtorEq, h']
      refine loopO gW_ok (pl := Try.pl61) Try.mix (X := Nat × X)
        (fun s => ([(0, .func (.yield l) #[] #[]), (1, .pointer (some ⟨bn, 0, none⟩)), (3, .int .i64 3), (4, .int .i64 ((s.1 : Int) - 1))], Hc ++ Ho s.2))
        (fun s => s.1 ≤ 64 ∧ I (256 + (64 - s.1)) s.2) (fun s => s.1) (64, z) ?_ ?_ (by kernel_rfl) ?_
      · exact ⟨Nat.le_refl _, hi⟩
      · simp only [push_cast, Nat.reduceAdd, Nat.reduceSub, Nat.reduceMul, Nat.reduceLT, Nat.reduceLeDiff, Nat.reduceEqDiff, Nat.reduceMod, Nat.reduceDiv, Int.reduceAdd, Int.reduceSub, Int.reduceMul, Int.reduceLT, Int.reduceLE, Int.reduceEq, Int.reduceNeg, Int.reduceToNat, reduceIte, reduceCtorEq, hmarks, subH_self]
      · rintro ⟨r, z⟩ ⟨hr, hi⟩
        dsimp only at hr hi ⊢
        cases r with
        | zero =>
          simp only [push_cast, Nat.reduceAdd, Nat.reduceSub, Nat.reduceMul, Nat.reduceLT, Nat.reduceLeDiff, Nat.reduceEqDiff, Nat.reduceMod, Nat.reduceDiv, Int.reduceAdd, Int.reduceSub, Int.reduceMul, Int.reduceLT, Int.reduceLE, Int.reduceEq, Int.reduceNeg, Int.reduceToNat, reduceIte, reduceCtorEq]
          exact ⟨(5, z), ⟨by dsimp only; omega, hi⟩, by dsimp only; omega, ⟨rfl, subH_self _, by simp only [hmarks]⟩⟩
        | succ k =>
          have er : ((k + 1 : Nat) : Int) - 1 = (k : Int) := by omega
          have hb := bit_at x.lo.d (k := k) x.lo.hd (by omega)
          simp only [push_cast, Nat.reduceAdd, Nat.reduceSub, Nat.reduceMul, Nat.reduceLT, Nat.reduceLeDiff, Nat.reduceEqDiff, Nat.reduceMod, Nat.reduceDiv, Int.reduceAdd, Int.reduceSub, Int.reduceMul, Int.reduceLT, Int.reduceLE, Int.reduceEq, Int.reduceNeg, Int.reduceToNat, reduceIte, reduceCtorEq, er, h', hb]
          refine yl (256 + (63 - k)) z _ _ (by omega) ?_ ?_ (fun x' hx' => ?_) (fun x' hx' => ?_)
          · rw [hb, show 511 - (256 + (63 - k)) = 192 + k by omega]; exact W8_bit3 x (by omega)
          · rw [show 256 + (63 - k) = 256 + (64 - (k + 1)) by omega]; exact hi
          · simp only [push_cast, Nat.reduceAdd, Nat.reduceSub, Nat.reduceMul, Nat.reduceLT, Nat.reduceLeDiff, Nat.reduceEqDiff, Nat.reduceMod, Nat.reduceDiv, Int.reduceAdd, Int.reduceSub, Int.reduceMul, Int.reduceLT, Int.reduceLE, Int.reduceEq, Int.reduceNeg, Int.reduceToNat, reduceIte, reduceCtorEq, er, wrap_i64' (show -9223372036854775808 ≤ (k : Int) - 1 ∧ (k : Int) - 1 ≤ 9223372036854775807 by omega)]
            refine ⟨(k, x'), ⟨by dsimp only; omega, ?_⟩, by dsimp only; omega, ⟨rfl, subH_self _, by simp only [hmarks]⟩⟩
            rw [show 256 + (63 - k) + 1 = 256 + (64 - k) by omega] at hx'
            exact hx'
          · simp only [push_cast, Nat.reduceAdd, Nat.reduceSub, Nat.reduceMul, Nat.reduceLT, Nat.reduceLeDiff, Nat.reduceEqDiff, Nat.reduceMod, Nat.reduceDiv, Int.reduceAdd, Int.reduceSub, Int.reduceMul, Int.reduceLT, Int.reduceLE, Int.reduceEq, Int.reduceNeg, Int.reduceToNat, reduceIte, reduceCtorEq, er]
            exact yf x' (.inr hx')
    · simp only [push_cast, Nat.reduceAdd, Nat.reduceSub, Nat.reduceMul, Nat.reduceLT, Nat.reduceLeDiff, Nat.reduceEqDiff, Nat.reduceMod, Nat.reduceDiv, Int.reduceAdd, Int.reduceSub, Int.reduceMul, Int.reduceLT, Int.reduceLE, Int.reduceEq, Int.reduceNeg, Int.reduceToNat, reduceIte, reduceCtorEq, h']
      refine loopO gW_ok (pl := Try.pl61) Try.mix (X := Nat × X)
        (fun s => ([(0, .func (.yield l) #[] #[]), (1, .pointer (some ⟨bn, 0, none⟩)), (3, .int .i64 2), (4, .int .i64 ((s.1 : Int) - 1))], Hc ++ Ho s.2))
        (fun s => s.1 ≤ 64 ∧ I (320 + (64 - s.1)) s.2) (fun s => s.1) (64, z) ?_ ?_ (by kernel_rfl) ?_
      · exact ⟨Nat.le_refl _, hi⟩
      · simp only [push_cast, Nat.reduceAdd, Nat.reduceSub, Nat.reduceMul, Nat.reduceLT, Nat.reduceLeDiff, Nat.reduceEqDiff, Nat.reduceMod, Nat.reduceDiv, Int.reduceAdd, Int.reduceSub, Int.reduceMul, Int.reduceLT, Int.reduceLE, Int.reduceEq, Int.reduceNeg, Int.reduceToNat, reduceIte, reduceCtorEq, hmarks, subH_self]
      · rintro ⟨r, z⟩ ⟨hr, hi⟩
        dsimp only at hr hi ⊢
        cases r with
        | zero =>
          simp only [push_cast, Nat.reduceAdd, Nat.reduceSub, Nat.reduceMul, Nat.reduceLT, Nat.reduceLeDiff, Nat.reduceEqDiff, Nat.reduceMod, Nat.reduceDiv, Int.reduceAdd, Int.reduceSub, Int.reduceMul, Int.reduceLT, Int.reduceLE, Int.reduceEq, Int.reduceNeg, Int.reduceToNat, reduceIte, reduceCtorEq]
          exact ⟨(6, z), ⟨by dsimp only; omega, hi⟩, by dsimp only; omega, ⟨rfl, subH_self _, by simp only [hmarks]⟩⟩
        | succ k =>
          have er : ((k + 1 : Nat) : Int) - 1 = (k : Int) := by omega
          have hb := bit_at x.lo.c (k := k) x.lo.hc (by omega)
          simp only [push_cast, Nat.reduceAdd, Nat.reduceSub, Nat.reduceMul, Nat.reduceLT, Nat.reduceLeDiff, Nat.reduceEqDiff, Nat.reduceMod, Nat.reduceDiv, Int.reduceAdd, Int.reduceSub, Int.reduceMul, Int.reduceLT, Int.reduceLE, Int.reduceEq, Int.reduceNeg, Int.reduceToNat, reduceIte, reduceCtorEq, er, h', hb]
          refine yl (320 + (63 - k)) z _ _ (by omega) ?_ ?_ (fun x' hx' => ?_) (fun x' hx' => ?_)
          · rw [hb, show 511 - (320 + (63 - k)) = 128 + k by omega]; exact W8_bit2 x (by omega)
          · rw [show 320 + (63 - k) = 320 + (64 - (k + 1)) by omega]; exact hi
          · simp only [push_cast, Nat.reduceAdd, Nat.reduceSub, Nat.reduceMul, Nat.reduceLT, Nat.reduceLeDiff, Nat.reduceEqDiff, Nat.reduceMod, Nat.reduceDiv, Int.reduceAdd, Int.reduceSub, Int.reduceMul, Int.reduceLT, Int.reduceLE, Int.reduceEq, Int.reduceNeg, Int.reduceToNat, reduceIte, reduceCtorEq, er, wrap_i64' (show -9223372036854775808 ≤ (k : Int) - 1 ∧ (k : Int) - 1 ≤ 9223372036854775807 by omega)]
            refine ⟨(k, x'), ⟨by dsimp only; omega, ?_⟩, by dsimp only; omega, ⟨rfl, subH_self _, by simp only [hmarks]⟩⟩
            rw [show 320 + (63 - k) + 1 = 320 + (64 - k) by omega] at hx'
            exact hx'
          · simp only [push_cast, Nat.reduceAdd, Nat.reduceSub, Nat.reduceMul, Nat.reduceLT, Nat.reduceLeDiff, Nat.reduceEqDiff, Nat.reduceMod, Nat.reduceDiv, Int.reduceAdd, Int.reduceSub, Int.reduceMul, Int.reduceLT, Int.reduceLE, Int.reduceEq, Int.reduceNeg, Int.reduceToNat, reduceIte, reduceCtorEq, er]
            exact yf x' (.inr hx')
    · simp only [push_cast, Nat.reduceAdd, Nat.reduceSub, Nat.reduceMul, Nat.reduceLT, Nat.reduceLeDiff, Nat.reduceEqDiff, Nat.reduceMod, Nat.reduceDiv, Int.reduceAdd, Int.reduceSub, Int.reduceMul, Int.reduceLT, Int.reduceLE, Int.reduceEq, Int.reduceNeg, Int.reduceToNat, reduceIte, reduceCtorEq, h']
      refine loopO gW_ok (pl := Try.pl61) Try.mix (X := Nat × X)
        (fun s => ([(0, .func (.yield l) #[] #[]), (1, .pointer (some ⟨bn, 0, none⟩)), (3, .int .i64 1), (4, .int .i64 ((s.1 : Int) - 1))], Hc ++ Ho s.2))
        (fun s => s.1 ≤ 64 ∧ I (384 + (64 - s.1)) s.2) (fun s => s.1) (64, z) ?_ ?_ (by kernel_rfl) ?_
      · exact ⟨Nat.le_refl _, hi⟩
      · simp only [push_cast, Nat.reduceAdd, Nat.reduceSub, Nat.reduceMul, Nat.reduceLT, Nat.reduceLeDiff, Nat.reduceEqDiff, Nat.reduceMod, Nat.reduceDiv, Int.reduceAdd, Int.reduceSub, Int.reduceMul, Int.reduceLT, Int.reduceLE, Int.reduceEq, Int.reduceNeg, Int.reduceToNat, reduceIte, reduceCtorEq, hmarks, subH_self]
      · rintro ⟨r, z⟩ ⟨hr, hi⟩
        dsimp only at hr hi ⊢
        cases r with
        | zero =>
          simp only [push_cast, Nat.reduceAdd, Nat.reduceSub, Nat.reduceMul, Nat.reduceLT, Nat.reduceLeDiff, Nat.reduceEqDiff, Nat.reduceMod, Nat.reduceDiv, Int.reduceAdd, Int.reduceSub, Int.reduceMul, Int.reduceLT, Int.reduceLE, Int.reduceEq, Int.reduceNeg, Int.reduceToNat, reduceIte, reduceCtorEq]
          exact ⟨(7, z), ⟨by dsimp only; omega, hi⟩, by dsimp only; omega, ⟨rfl, subH_self _, by simp only [hmarks]⟩⟩
        | succ k =>
          have er : ((k + 1 : Nat) : Int) - 1 = (k : Int) := by omega
          have hb := bit_at x.lo.b (k := k) x.lo.hb (by omega)
          simp only [push_cast, Nat.reduceAdd, Nat.reduceSub, Nat.reduceMul, Nat.reduceLT, Nat.reduceLeDiff, Nat.reduceEqDiff, Nat.reduceMod, Nat.reduceDiv, Int.reduceAdd, Int.reduceSub, Int.reduceMul, Int.reduceLT, Int.reduceLE, Int.reduceEq, Int.reduceNeg, Int.reduceToNat, reduceIte, reduceCtorEq, er, h', hb]
          refine yl (384 + (63 - k)) z _ _ (by omega) ?_ ?_ (fun x' hx' => ?_) (fun x' hx' => ?_)
          · rw [hb, show 511 - (384 + (63 - k)) = 64 + k by omega]; exact W8_bit1 x (by omega)
          · rw [show 384 + (63 - k) = 384 + (64 - (k + 1)) by omega]; exact hi
          · simp only [push_cast, Nat.reduceAdd, Nat.reduceSub, Nat.reduceMul, Nat.reduceLT, Nat.reduceLeDiff, Nat.reduceEqDiff, Nat.reduceMod, Nat.reduceDiv, Int.reduceAdd, Int.reduceSub, Int.reduceMul, Int.reduceLT, Int.reduceLE, Int.reduceEq, Int.reduceNeg, Int.reduceToNat, reduceIte, reduceCtorEq, er, wrap_i64' (show -9223372036854775808 ≤ (k : Int) - 1 ∧ (k : Int) - 1 ≤ 9223372036854775807 by omega)]
            refine ⟨(k, x'), ⟨by dsimp only; omega, ?_⟩, by dsimp only; omega, ⟨rfl, subH_self _, by simp only [hmarks]⟩⟩
            rw [show 384 + (63 - k) + 1 = 384 + (64 - k) by omega] at hx'
            exact hx'
          · simp only [push_cast, Nat.reduceAdd, Nat.reduceSub, Nat.reduceMul, Nat.reduceLT, Nat.reduceLeDiff, Nat.reduceEqDiff, Nat.reduceMod, Nat.reduceDiv, Int.reduceAdd, Int.reduceSub, Int.reduceMul, Int.reduceLT, Int.reduceLE, Int.reduceEq, Int.reduceNeg, Int.reduceToNat, reduceIte, reduceCtorEq, er]
            exact yf x' (.inr hx')
    · simp only [push_cast, Nat.reduceAdd, Nat.reduceSub, Nat.reduceMul, Nat.reduceLT, Nat.reduceLeDiff, Nat.reduceEqDiff, Nat.reduceMod, Nat.reduceDiv, Int.reduceAdd, Int.reduceSub, Int.reduceMul, Int.reduceLT, Int.reduceLE, Int.reduceEq, Int.reduceNeg, Int.reduceToNat, reduceIte, reduceCtorEq, h']
      refine loopO gW_ok (pl := Try.pl61) Try.mix (X := Nat × X)
        (fun s => ([(0, .func (.yield l) #[] #[]), (1, .pointer (some ⟨bn, 0, none⟩)), (3, .int .i64 0), (4, .int .i64 ((s.1 : Int) - 1))], Hc ++ Ho s.2))
        (fun s => s.1 ≤ 64 ∧ I (448 + (64 - s.1)) s.2) (fun s => s.1) (64, z) ?_ ?_ (by kernel_rfl) ?_
      · exact ⟨Nat.le_refl _, hi⟩
      · simp only [push_cast, Nat.reduceAdd, Nat.reduceSub, Nat.reduceMul, Nat.reduceLT, Nat.reduceLeDiff, Nat.reduceEqDiff, Nat.reduceMod, Nat.reduceDiv, Int.reduceAdd, Int.reduceSub, Int.reduceMul, Int.reduceLT, Int.reduceLE, Int.reduceEq, Int.reduceNeg, Int.reduceToNat, reduceIte, reduceCtorEq, hmarks, subH_self]
      · rintro ⟨r, z⟩ ⟨hr, hi⟩
        dsimp only at hr hi ⊢
        cases r with
        | zero =>
          simp only [push_cast, Nat.reduceAdd, Nat.reduceSub, Nat.reduceMul, Nat.reduceLT, Nat.reduceLeDiff, Nat.reduceEqDiff, Nat.reduceMod, Nat.reduceDiv, Int.reduceAdd, Int.reduceSub, Int.reduceMul, Int.reduceLT, Int.reduceLE, Int.reduceEq, Int.reduceNeg, Int.reduceToNat, reduceIte, reduceCtorEq]
          exact ⟨(8, z), ⟨by dsimp only; omega, hi⟩, by dsimp only; omega, ⟨rfl, subH_self _, by simp only [hmarks]⟩⟩
        | succ k =>
          have er : ((k + 1 : Nat) : Int) - 1 = (k : Int) := by omega
          have hb := bit_at x.lo.a (k := k) x.lo.ha (by omega)
          simp only [push_cast, Nat.reduceAdd, Nat.reduceSub, Nat.reduceMul, Nat.reduceLT, Nat.reduceLeDiff, Nat.reduceEqDiff, Nat.reduceMod, Nat.reduceDiv, Int.reduceAdd, Int.reduceSub, Int.reduceMul, Int.reduceLT, Int.reduceLE, Int.reduceEq, Int.reduceNeg, Int.reduceToNat, reduceIte, reduceCtorEq, er, h', hb]
          refine yl (448 + (63 - k)) z _ _ (by omega) ?_ ?_ (fun x' hx' => ?_) (fun x' hx' => ?_)
          · rw [hb, show 511 - (448 + (63 - k)) = 0 + k by omega]; exact W8_bit0 x (by omega)
          · rw [show 448 + (63 - k) = 448 + (64 - (k + 1)) by omega]; exact hi
          · simp only [push_cast, Nat.reduceAdd, Nat.reduceSub, Nat.reduceMul, Nat.reduceLT, Nat.reduceLeDiff, Nat.reduceEqDiff, Nat.reduceMod, Nat.reduceDiv, Int.reduceAdd, Int.reduceSub, Int.reduceMul, Int.reduceLT, Int.reduceLE, Int.reduceEq, Int.reduceNeg, Int.reduceToNat, reduceIte, reduceCtorEq, er, wrap_i64' (show -9223372036854775808 ≤ (k : Int) - 1 ∧ (k : Int) - 1 ≤ 9223372036854775807 by omega)]
            refine ⟨(k, x'), ⟨by dsimp only; omega, ?_⟩, by dsimp only; omega, ⟨rfl, subH_self _, by simp only [hmarks]⟩⟩
            rw [show 448 + (63 - k) + 1 = 448 + (64 - k) by omega] at hx'
            exact hx'
          · simp only [push_cast, Nat.reduceAdd, Nat.reduceSub, Nat.reduceMul, Nat.reduceLT, Nat.reduceLeDiff, Nat.reduceEqDiff, Nat.reduceMod, Nat.reduceDiv, Int.reduceAdd, Int.reduceSub, Int.reduceMul, Int.reduceLT, Int.reduceLE, Int.reduceEq, Int.reduceNeg, Int.reduceToNat, reduceIte, reduceCtorEq, er]
            exact yf x' (.inr hx')
    · simp only [push_cast, Nat.reduceAdd, Nat.reduceSub, Nat.reduceMul, Nat.reduceLT, Nat.reduceLeDiff, Nat.reduceEqDiff, Nat.reduceMod, Nat.reduceDiv, Int.reduceAdd, Int.reduceSub, Int.reduceMul, Int.reduceLT, Int.reduceLE, Int.reduceEq, Int.reduceNeg, Int.reduceToNat, reduceIte, reduceCtorEq]
      exact yf z (.inl (by rw [hvl]; exact hi))
end Go.Proofs.Ytbpnjkedflkabaa
