/- Gk: GasRises. -/
import Derived.Test.YtfioapldbajpmaaDoorGj
set_option linter.unusedSimpArgs false
set_option linter.unusedVariables false
namespace Go.Ev
theorem gcopy_mono {a b : Nat} (hb : b ≤ 1048576) (h : a ≤ b) : gwordsI a ≤ gwordsI b := by
  rw [gwordsI_eq, gwordsI_eq, gmanyI_in (by omega), gmanyI_in hb]; omega
theorem gback_nat {a f : Nat} : gbackI a f = ((if f < a / 5 then f else a / 5 : Nat) : Int) := by
  rw [gbackI_eq, show (a : Int).tdiv 5 = ((a / 5 : Nat) : Int) from rfl]
  unfold maxZ minZ
  split <;> split <;> split <;> omega
theorem gback_neg {a f : Nat} : gbackI a (-(f : Int)) = 0 := by
  rw [gbackI_eq, show (a : Int).tdiv 5 = ((a / 5 : Nat) : Int) from rfl]
  unfold maxZ minZ
  split <;> split <;> omega
theorem gexp_le (w : W) : (strip 0 (wbytes w)).length ≤ 32 := by
  have := strip_le 0 (wbytes w); rw [wbytes_len] at this; exact this
theorem strip_nil {c : UInt8} : ∀ {l : List UInt8}, strip c l = [] → ∀ x ∈ l, x = c
  | [], _, x, hx => by cases hx
  | y :: r, h, x, hx => by
    unfold strip at h
    split at h
    · rename_i hy
      rcases List.mem_cons.1 hx with rfl | hx
      · exact hy
      · exact strip_nil h x hx
    · cases h
theorem strip_all {c : UInt8} : ∀ {l : List UInt8}, (∀ x ∈ l, x = c) → strip c l = []
  | [], _ => rfl
  | y :: r, h => by
    unfold strip
    rw [if_pos (h y (by simp))]
    exact strip_all fun x hx => h x (by simp [hx])
theorem gexp_zero (w : W) : (strip 0 (wbytes w)).length = 0 ↔ w = W.zero := by
  rw [List.length_eq_zero_iff]
  constructor
  · intro h
    have h1 := strip_nil h
    refine W.num_inj ?_
    have key : ∀ k, k ≤ 32 → w.num % 256 ^ k = 0 := by
      intro k
      induction k with
      | zero => intro _; rw [Nat.pow_zero, Nat.mod_one]
      | succ k ih =>
        intro hk
        have h2 := wbytes_at w (j := 31 - k) (by omega)
        have h3 := h1 _ (List.mem_of_getElem? h2)
        have h4 := ofNat_dig w.num (31 - (31 - k))
        rw [h3, show 31 - (31 - k) = k by omega, digN_eq] at h4
        rw [Nat.pow_succ, Nat.mod_mul, ih (by omega), ← h4]; rfl
    have := key 32 (Nat.le_refl _)
    rw [Nat.mod_eq_of_lt (Nat.lt_of_lt_of_le w.num_lt (by decide))] at this
    rw [this]; rfl
  · rintro rfl
    refine strip_all fun x hx => ?_
    rw [wbytes_eq] at hx
    obtain ⟨j, _, rfl⟩ := List.mem_map.1 hx
    rw [digN_eq, show W.zero.num = 0 from rfl, Nat.zero_div]; rfl
end Go.Ev
namespace Go.Proofs.YtfioapldbajpmaaDoor
open Go Go.Ev Go.Proofs
set_option maxRecDepth 100000
set_option maxHeartbeats 4000000
def plGR : Plans := fun i => if i = 2 then [(0, 9)] else if i = 3 then [(0, 9)] else if i = 4 then [(0, 9)] else if i = 5 then [(0, 9)] else if i = 6 then [(0, 9)] else Tryd.pl7 i
attribute [push_cast] plGR
theorem gasRises_ok (m n refund : Int) (e : W) (hm : i64In m) (hn : i64In n) (hr : i64In refund) : CallsV Tryd.prog 7 [.int .i64 m, .int .i64 n, .int .i64 refund, e.v] [] (Ret0 (.bool true)) := by
  have j1 := i64B_in hm
  have j2 := i64B_in hn
  have j3 := i64B_in hr
  have j4 : i64B 1048576 = true := i64B_in (by decide)
  have q1 : posB 1048576 = true := posB_in (by decide)
  have hp := pickN_lt m (n := 1048576) (by decide)
  have hq := pickN_lt n (n := 1048576) (by decide)
  have hf := pickN_lt refund (n := 1048576) (by decide)
  obtain ⟨p, hpe⟩ : ∃ p, p = pickN m 1048576 := ⟨_, rfl⟩
  obtain ⟨q, hqe⟩ : ∃ q, q = pickN n 1048576 := ⟨_, rfl⟩
  obtain ⟨f, hfe⟩ : ∃ f, f = pickN refund 1048576 := ⟨_, rfl⟩
  rw [← hpe] at hp
  rw [← hqe] at hq
  rw [← hfe] at hf
  refine callsO gQ2_ok Tryd.mix plGR Tryd.func7 rfl Tryd.ntmps7 Tryd.results7 rfl (by first | rfl | assumption) (Nat.le_of_ble_eq_true rfl) (by kernel_rfl) ?_
  simp only [push_cast, Nat.reduceAdd, Nat.reduceSub, Nat.reduceMul, Nat.reduceLT, Nat.reduceLeDiff, Nat.reduceEqDiff, Nat.reduceMod, Nat.reduceDiv, Int.reduceAdd, Int.reduceSub, Int.reduceMul, Int.reduceLT, Int.reduceLE, Int.reduceEq, Int.reduceNeg, Int.reduceToNat, reduceIte, reduceCtorEq, Int.reduceBEq, Int.reduceBNe, Bool.true_beq, Bool.false_beq, Bool.true_bne, Bool.false_bne, Bool.not_true, Bool.not_false]
  intro b7
  refine regO gQ2_ok ?_
  obtain ⟨a, ha⟩ : ∃ a : Nat, a = if q < p then q else p := ⟨_, rfl⟩
  obtain ⟨b, hb⟩ : ∃ b : Nat, b = if p < q then q else p := ⟨_, rfl⟩
  have hmin : (if q < p then (q : Int) else (p : Int)) = (a : Int) := by rw [ha]; split <;> rfl
  have hmax : (if p < q then (q : Int) else (p : Int)) = (b : Int) := by rw [hb]; split <;> rfl
  have hab : a ≤ b := by rw [ha, hb]; split <;> split <;> omega
  have hb1 : b < 1048576 := by rw [hb]; split <;> omega
  clear ha hb
  simp only [push_cast, Nat.reduceAdd, Nat.reduceSub, Nat.reduceMul, Nat.reduceLT, Nat.reduceLeDiff, Nat.reduceEqDiff, Nat.reduceMod, Nat.reduceDiv, Int.reduceAdd, Int.reduceSub, Int.reduceMul, Int.reduceLT, Int.reduceLE, Int.reduceEq, Int.reduceNeg, Int.reduceToNat, reduceIte, reduceCtorEq, Int.reduceBEq, Int.reduceBNe, Bool.true_beq, Bool.false_beq, Bool.true_bne, Bool.false_bne, Bool.not_true, Bool.not_false, j1, j2, j4, q1, ← hpe, ← hqe, hmin]
  refine regO gQ2_ok ?_
  simp only [push_cast, Nat.reduceAdd, Nat.reduceSub, Nat.reduceMul, Nat.reduceLT, Nat.reduceLeDiff, Nat.reduceEqDiff, Nat.reduceMod, Nat.reduceDiv, Int.reduceAdd, Int.reduceSub, Int.reduceMul, Int.reduceLT, Int.reduceLE, Int.reduceEq, Int.reduceNeg, Int.reduceToNat, reduceIte, reduceCtorEq, Int.reduceBEq, Int.reduceBNe, Bool.true_beq, Bool.false_beq, Bool.true_bne, Bool.false_bne, Bool.not_true, Bool.not_false, j1, j2, j4, q1, ← hpe, ← hqe, hmax]
  refine regO gQ2_ok ?_
  simp only [push_cast, Nat.reduceAdd, Nat.reduceSub, Nat.reduceMul, Nat.reduceLT, Nat.reduceLeDiff, Nat.reduceEqDiff, Nat.reduceMod, Nat.reduceDiv, Int.reduceAdd, Int.reduceSub, Int.reduceMul, Int.reduceLT, Int.reduceLE, Int.reduceEq, Int.reduceNeg, Int.reduceToNat, reduceIte, reduceCtorEq, Int.reduceBEq, Int.reduceBNe, Bool.true_beq, Bool.false_beq, Bool.true_bne, Bool.false_bne, Bool.not_true, Bool.not_false, j3, j4, q1, ← hfe]
  refine regO gQ2_ok ?_
  obtain ⟨x, hx⟩ : ∃ x, x = gexpI e := ⟨_, rfl⟩
  simp only [push_cast, Nat.reduceAdd, Nat.reduceSub, Nat.reduceMul, Nat.reduceLT, Nat.reduceLeDiff, Nat.reduceEqDiff, Nat.reduceMod, Nat.reduceDiv, Int.reduceAdd, Int.reduceSub, Int.reduceMul, Int.reduceLT, Int.reduceLE, Int.reduceEq, Int.reduceNeg, Int.reduceToNat, reduceIte, reduceCtorEq, Int.reduceBEq, Int.reduceBNe, Bool.true_beq, Bool.false_beq, Bool.true_bne, Bool.false_bne, Bool.not_true, Bool.not_false, ← hx]
  have hwab := gcopy_mono (a := a) (b := b) (by omega) hab
  have hma : gmanyI (a : Int) = a := gmanyI_in (by omega)
  have hmb : gmanyI (b : Int) = b := gmanyI_in (by omega)
  have hwb := gwordsI_le (b : Int)
  have hia := ginitI_eq (a : Int) false
  have hib := ginitI_eq (a : Int) true
  rw [if_neg (by decide)] at hia
  rw [if_pos rfl] at hib
  obtain ⟨u, hu⟩ : ∃ u, u = gwordsI (a : Int) := ⟨_, rfl⟩
  obtain ⟨t, ht⟩ : ∃ t, t = gwordsI (b : Int) := ⟨_, rfl⟩
  rw [← hu] at hwab hia hib
  rw [← ht] at hwab hwb
  have hba := gback_nat (a := a) (f := f)
  have hbb := gback_nat (a := b) (f := f)
  have hbn := gback_neg (a := a) (f := f)
  obtain ⟨y, hy⟩ : ∃ y, y = if f < a / 5 then f else a / 5 := ⟨_, rfl⟩
  obtain ⟨z, hz⟩ : ∃ z, z = if f < b / 5 then f else b / 5 := ⟨_, rfl⟩
  rw [← hy] at hba
  rw [← hz] at hbb
  have yz : y ≤ z := by rw [hy, hz]; split <;> split <;> omega
  have yf : y ≤ f := by rw [hy]; split <;> omega
  have y5 : 5 * y ≤ a := by rw [hy]; split <;> omega
  have jf : i64B (-(f : Int)) = true := i64B_in (by unfold i64In; omega)
  have ja : i64B (a : Int) = true := i64B_in (by unfold i64In; omega)
  have jb : i64B (b : Int) = true := i64B_in (by unfold i64In; omega)
  have c1 : 3 * u ≤ 3 * t := by omega
  have c1' : 3 * (u : Int) ≤ 3 * (t : Int) := by omega
  have c2 : 6 * (u : Int) = 2 * (3 * (u : Int)) := by omega
  have w6 : IntKind.i64.wrap (2 * (3 * (u : Int))) = 6 * (u : Int) := by rw [← c2]; exact IntWalk.i64_in _ (by omega)
  have c3 : 8 * a ≤ 8 * b := by omega
  have c3' : 8 * (a : Int) ≤ 8 * (b : Int) := by omega
  have c4 : 2 * u ≤ 8 * u := by omega
  have c4' : 2 * (u : Int) ≤ 8 * (u : Int) := by omega
  have c5 : 5 * y ≤ a := y5
  have c5' : 5 * (y : Int) ≤ (a : Int) := by omega
  refine regC gQ2_ok 45 ?_
  simp only [push_cast, Nat.reduceAdd, Nat.reduceSub, Nat.reduceMul, Nat.reduceLT, Nat.reduceLeDiff, Nat.reduceEqDiff, Nat.reduceMod, Nat.reduceDiv, Int.reduceAdd, Int.reduceSub, Int.reduceMul, Int.reduceLT, Int.reduceLE, Int.reduceEq, Int.reduceNeg, Int.reduceToNat, reduceIte, reduceCtorEq, Int.reduceBEq, Int.reduceBNe, Bool.true_beq, Bool.false_beq, Bool.true_bne, Bool.false_bne, Bool.not_true, Bool.not_false, ← hu, ← ht, hma, hmb, hia, hib, hba, hbb, hbn, ja, jb, jf, c1, c1', w6, c3, c3', c4, c4', yz, yf, c5, c5', wrap_i64' (show -9223372036854775808 ≤ -(f : Int) ∧ -(f : Int) ≤ 9223372036854775807 by omega), wrap_i64' (show -9223372036854775808 ≤ 5 * (y : Int) ∧ 5 * (y : Int) ≤ 9223372036854775807 by omega)]
  refine cutK 9 ?_
  simp only [push_cast, Nat.reduceAdd, Nat.reduceSub, Nat.reduceMul, Nat.reduceLT, Nat.reduceLeDiff, Nat.reduceEqDiff, Nat.reduceMod, Nat.reduceDiv, Int.reduceAdd, Int.reduceSub, Int.reduceMul, Int.reduceLT, Int.reduceLE, Int.reduceEq, Int.reduceNeg, Int.reduceToNat, reduceIte, reduceCtorEq, Int.reduceBEq, Int.reduceBNe, Bool.true_beq, Bool.false_beq, Bool.true_bne, Bool.false_bne, Bool.not_true, Bool.not_false, ← hu, ← ht, hma, hmb, hia, hib, hba, hbb, hbn, ja, jb, jf, y5, c5, c5', wrap_i64' (show -9223372036854775808 ≤ -(f : Int) ∧ -(f : Int) ≤ 9223372036854775807 by omega), wrap_i64' (show -9223372036854775808 ≤ 5 * (y : Int) ∧ 5 * (y : Int) ≤ 9223372036854775807 by omega)]
  have wf : IntKind.i64.wrap (0 - (f : Int)) = -(f : Int) := by rw [Int.zero_sub]; exact IntWalk.i64_in _ (by omega)
  refine cutK 7 ?_
  simp only [push_cast, Nat.reduceAdd, Nat.reduceSub, Nat.reduceMul, Nat.reduceLT, Nat.reduceLeDiff, Nat.reduceEqDiff, Nat.reduceMod, Nat.reduceDiv, Int.reduceAdd, Int.reduceSub, Int.reduceMul, Int.reduceLT, Int.reduceLE, Int.reduceEq, Int.reduceNeg, Int.reduceToNat, reduceIte, reduceCtorEq, Int.reduceBEq, Int.reduceBNe, Bool.true_beq, Bool.false_beq, Bool.true_bne, Bool.false_bne, Bool.not_true, Bool.not_false, wf, ← hu, ← ht, hma, hmb, hia, hib, hba, hbb, hbn, ja, jb, jf, y5, c5, c5', wrap_i64' (show -9223372036854775808 ≤ -(f : Int) ∧ -(f : Int) ≤ 9223372036854775807 by omega), wrap_i64' (show -9223372036854775808 ≤ 5 * (y : Int) ∧ 5 * (y : Int) ≤ 9223372036854775807 by omega)]
  have t1 : gtouchI true true = 100 := rfl
  have t2 : gtouchI false true = 100 := rfl
  have t3 : gtouchI true false = 2100 := rfl
  have t4 : gtouchI false false = 2600 := rfl
  have t5 : (100 : Int) < 2100 := by decide
  have t6 : (2100 : Int) < 2600 := by decide
  refine cutK 16 ?_
  simp only [push_cast, Nat.reduceAdd, Nat.reduceSub, Nat.reduceMul, Nat.reduceLT, Nat.reduceLeDiff, Nat.reduceEqDiff, Nat.reduceMod, Nat.reduceDiv, Int.reduceAdd, Int.reduceSub, Int.reduceMul, Int.reduceLT, Int.reduceLE, Int.reduceEq, Int.reduceNeg, Int.reduceToNat, reduceIte, reduceCtorEq, Int.reduceBEq, Int.reduceBNe, Bool.true_beq, Bool.false_beq, Bool.true_bne, Bool.false_bne, Bool.not_true, Bool.not_false, t1, t2, t3, t4, t5, t6]
  refine cutO ?_
  have hxe := gexpI_eq e
  have hxl := gexp_le e
  have hxz := gexp_zero e
  obtain ⟨k, hk⟩ : ∃ k, k = (strip 0 (wbytes e)).length := ⟨_, rfl⟩
  rw [← hx, ← hk] at hxe
  rw [← hk] at hxl hxz
  have x1 : (x : Int) ≤ 1600 := by omega
  have x0 : (0 : Int) ≤ (x : Int) := by omega
  have x2 : (x : Int).tmod 50 = 0 := by
    rw [show (x : Int).tmod 50 = ((x % 50 : Nat) : Int) from rfl, hxe]
    omega
  have n50 : ¬ (50 : Int) = 0 := by decide
  by_cases hz : e = W.zero
  · have x3 : ((x : Int) == 0) = true := by rw [hxe, hxz.2 hz]; rfl
    have x4 : decide (e = W.zero) = true := decide_eq_true hz
    simp only [push_cast, Nat.reduceAdd, Nat.reduceSub, Nat.reduceMul, Nat.reduceLT, Nat.reduceLeDiff, Nat.reduceEqDiff, Nat.reduceMod, Nat.reduceDiv, Int.reduceAdd, Int.reduceSub, Int.reduceMul, Int.reduceLT, Int.reduceLE, Int.reduceEq, Int.reduceNeg, Int.reduceToNat, reduceIte, reduceCtorEq, Int.reduceBEq, Int.reduceBNe, Bool.true_beq, Bool.false_beq, Bool.true_bne, Bool.false_bne, Bool.not_true, Bool.not_false, x0, x1, x2, x3, x4, n50]
  · have x3 : ((x : Int) == 0) = false := beq_eq_false_iff_ne.2 fun h => hz (hxz.1 (by omega))
    have x4 : decide (e = W.zero) = false := decide_eq_false hz
    simp only [push_cast, Nat.reduceAdd, Nat.reduceSub, Nat.reduceMul, Nat.reduceLT, Nat.reduceLeDiff, Nat.reduceEqDiff, Nat.reduceMod, Nat.reduceDiv, Int.reduceAdd, Int.reduceSub, Int.reduceMul, Int.reduceLT, Int.reduceLE, Int.reduceEq, Int.reduceNeg, Int.reduceToNat, reduceIte, reduceCtorEq, Int.reduceBEq, Int.reduceBNe, Bool.true_beq, Bool.false_beq, Bool.true_bne, Bool.false_bne, Bool.not_true, Bool.not_false, x0, x1, x2, x3, x4, n50]
end Go.Proofs.YtfioapldbajpmaaDoor
