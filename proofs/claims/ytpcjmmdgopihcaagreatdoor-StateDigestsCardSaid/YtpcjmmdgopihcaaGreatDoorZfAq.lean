/- Texts of this claim, merged by program: Ig Ih Ii Ij. -/
import Derived.Test.YtpcjmmdgopihcaaGreatDoorZfAp
import Derived.Test.YtpcjmmdgopihcaaGreatDoorZfAi
import Derived.Test.YtpcjmmdgopihcaaGreatDoorZfAn
import Derived.Test.YtpcjmmdgopihcaaGreatDoorZfAl
set_option linter.unusedSimpArgs false
set_option linter.unusedVariables false
namespace Go.Ev
noncomputable def abS (a : List Nat) (b : List UInt8) : Nat → List Nat
  | 0 => a
  | i + 1 => (abS a b i).set i (xorN (ln (abS a b i) i) (lowN ((b.drop (8 * i)).take 8)))
theorem low8_lt (b : List UInt8) : lowN (b.take 8) < 18446744073709551616 := by
  have h := lowN_lt (b.take 8)
  have h2 : 256 ^ (b.take 8).length ≤ 256 ^ 8 := Nat.pow_le_pow_right (by decide) (by rw [List.length_take]; omega)
  exact Nat.lt_of_lt_of_le h (Nat.le_trans h2 (by decide))
theorem abS_ln {a : List Nat} (h : Ln 25 a) (b : List UInt8) : ∀ i, Ln 25 (abS a b i)
  | 0 => h
  | i + 1 => (abS_ln h b i).set _ (xorN_lt ((abS_ln h b i).at _) (low8_lt _))
noncomputable def sumS (Q : List UInt8) : Nat → List Nat
  | 0 => List.replicate 25 0
  | j + 1 => permK (abS (sumS Q j) ((Q.drop (136 * j)).take 136) 17)
theorem sumS_ln (Q : List UInt8) : ∀ j, Ln 25 (sumS Q j)
  | 0 => Ln.zero 25
  | j + 1 => permK_ln (abS_ln (sumS_ln Q j) _ 17)
noncomputable def ouS (a : List Nat) : Nat → List UInt8
  | 0 => List.replicate 32 0
  | i + 1 => (ouS a i).set i (UInt8.ofNat (ln a (i / 8) / 256 ^ (i % 8) % 256))
theorem ouS_len (a : List Nat) : ∀ i, (ouS a i).length = 32
  | 0 => List.length_replicate ..
  | i + 1 => by
    show ((ouS a i).set i _).length = 32
    rw [List.length_set]; exact ouS_len a i
noncomputable def keccK : List UInt8 → List UInt8 := hid fun l => ouS (sumS (padK l) ((padK l).length / 136)) 32
theorem keccK_eq (l : List UInt8) : keccK l = ouS (sumS (padK l) ((padK l).length / 136)) 32 := by unfold keccK; rw [hid_eq]
theorem keccK_len (l : List UInt8) : (keccK l).length = 32 := by rw [keccK_eq]; exact ouS_len _ 32
theorem octet8 {x r : Nat} (hx : x < 18446744073709551616) (hr : r < 8) : IntKind.u8.wrap (shrI .u64 (x : Int) (8 * (r : Int))) = ((x / 256 ^ r % 256 : Nat) : Int) := by
  unfold shrI
  rw [show (8 * (r : Int)).toNat = 8 * r by omega, show min (8 * r) IntKind.u64.bits = 8 * r by show min (8 * r) 64 = 8 * r; omega, Int.fdiv_eq_ediv_of_nonneg _ (Int.pow_nonneg (by decide)), IntKind.wrap_u8]
  rw [show (2 : Int) ^ (8 * r) = ((256 ^ r : Nat) : Int) by rw [Int.natCast_pow, Int.pow_mul]; rfl]
  rw [Int.natCast_emod, Int.natCast_ediv]; rfl
theorem blk_part {Q : List UInt8} {p u : Nat} (hu : u + 8 ≤ 136) : (((Q.drop p).take 136).drop u).take 8 = (Q.drop (p + u)).take 8 := by
  rw [List.drop_take, List.take_take, List.drop_drop, Nat.min_eq_left (by omega)]
theorem byV_part {M : Hp} {bq o n k : Nat} {kd : Kind} {Q : List UInt8} (h : findE M bq = some ⟨bq, 0, kd, byteV Q⟩) (hn : o + n ≤ Q.length) : LiR byC 1 M ((Q.drop o).take n) (.slice (some ⟨bq, o, none⟩) n k) := by
  have hl : ((Q.drop o).take n).length = n := by rw [List.length_take, List.length_drop]; omega
  refine ⟨some ⟨bq, o, none⟩, k, by rw [hl], .inr ⟨bq, o, rfl, ?_⟩⟩
  unfold cellsAt
  rw [h]
  dsimp only
  rw [if_pos (Nat.zero_le _), hl, byV_flat]
  unfold subL
  rw [if_pos (by rw [byV_len]; omega), Nat.sub_zero, Nat.mul_one]
  unfold byteV
  rw [List.map_take, List.map_drop]
theorem takeI {P : Program} {g : FuncId} {args : List Value} (L : Hp) {M : Hp} {v : Value} {K : Value → Prop} (hc : ∀ M0, roM M0 → cellsAt M0 = cellsAt M → CallsV P g args M0 (Ret0 v)) (hL : freshN L M) (hk : K v) : TakeV P g args (L ++ M) K := TakeV.mk (derE_behind hL) (hc (roAll M) (roAll_ro M) (cellsAt_roAll M)) hk
end Go.Ev
namespace Go.Proofs.YtpcjmmdgopihcaaGreatDoor
open Go Go.Ev Go.Proofs
set_option maxRecDepth 100000
set_option maxHeartbeats 4000000
theorem perm_R {M : Hp} {a : List Nat} (h : Ln 25 a) (hk : KonR M) : ∀ M0, roM M0 → cellsAt M0 = cellsAt M → CallsV Tryz.prog 83 [.agg (lnC a).toArray] M0 (Ret0 (.agg (lnC (permK a)).toArray)) :=
  fun _ hr he => perm_ok h (hk.congr he.symm) hr.marks
def plSum : Plans := fun i => if i = 9 then [] else Tryz.pl56 i
attribute [push_cast] plSum
theorem sum_ok {M : Hp} (hk : KonR M) (hm : marksOf M = []) (l : List UInt8) (hl : l.length ≤ 1048576) : CallsV Tryz.prog 56 [.string ⟨l.toArray⟩] M (Ret0 (.tuple #[.string ⟨(keccK l).toArray⟩, .int .i64 0])) := by
  have hsz : (ByteArray.mk l.toArray).size = l.length := by simp [ByteArray.size]
  have hl1 : ¬ 1048576 < (l.length : Int) := by omega
  have hl2 : ¬ 1048576 < l.length := by omega
  obtain ⟨Q, hQ⟩ : ∃ Q, Q = padK l := ⟨_, rfl⟩
  have hq1 := padK_len l
  have hq2 := padK_mod l
  have hq3 : padJ_many l.length < 136 := Nat.mod_lt _ (by decide)
  have hpad := pad_ok l (by omega)
  rw [keccK_eq]
  rw [← hQ] at hq1 hq2 hpad ⊢
  obtain ⟨T, hT⟩ : ∃ T, T = Q.length := ⟨_, rfl⟩
  obtain ⟨B, hB⟩ : ∃ B, B = T / 136 := ⟨_, rfl⟩
  rw [← hT] at hq1 hq2 ⊢
  rw [← hB]
  have hTB : T = 136 * B := by omega
  have hsq : (ByteArray.mk Q.toArray).size = T := by rw [hT]; simp [ByteArray.size]
  refine callsO gI0_ok Tryz.mix plSum Tryz.func56 rfl Tryz.ntmps56 Tryz.results56 rfl (by first | rfl | assumption) (Nat.le_of_ble_eq_true rfl) (by kernel_rfl) ?_
  simp only [push_cast, Nat.reduceAdd, Nat.reduceSub, Nat.reduceMul, Nat.reduceLT, Nat.reduceLeDiff, Nat.reduceEqDiff, Nat.reduceMod, Nat.reduceDiv, Int.reduceAdd, Int.reduceSub, Int.reduceMul, Int.reduceLT, Int.reduceLE, Int.reduceEq, Int.reduceNeg, Int.reduceToNat, reduceIte, reduceCtorEq, Int.reduceBEq, Int.reduceBNe, hsz, hl1, hl2]
  intro b4 hb4
  try simp only [push_cast, Nat.reduceAdd, Nat.reduceSub, Nat.reduceMul, Nat.reduceLT, Nat.reduceLeDiff, Nat.reduceEqDiff, Nat.reduceMod, Nat.reduceDiv, Int.reduceAdd, Int.reduceSub, Int.reduceMul, Int.reduceLT, Int.reduceLE, Int.reduceEq, Int.reduceNeg, Int.reduceToNat, reduceIte, reduceCtorEq, Int.reduceBEq, Int.reduceBNe, hsz, hl1, hl2]
  refine hpad.pure trivial ?_
  simp only [push_cast, Nat.reduceAdd, Nat.reduceSub, Nat.reduceMul, Nat.reduceLT, Nat.reduceLeDiff, Nat.reduceEqDiff, Nat.reduceMod, Nat.reduceDiv, Int.reduceAdd, Int.reduceSub, Int.reduceMul, Int.reduceLT, Int.reduceLE, Int.reduceEq, Int.reduceNeg, Int.reduceToNat, reduceIte, reduceCtorEq, Int.reduceBEq, Int.reduceBNe, hsq]
  intro bq c0 hbq hc
  have hbq4 : fresh bq M := hbq.2.2
  refine (chunk_ok (some ⟨bq, 0, none⟩) T c0).use trivial ?_
  rintro _ _ ⟨b2, b3, rfl, rfl, hne⟩
  refine ⟨⟨trivial, trivial, trivial⟩, rfl, fun hfn => ?_⟩
  simp only [push_cast, Nat.reduceAdd, Nat.reduceSub, Nat.reduceMul, Nat.reduceLT, Nat.reduceLeDiff, Nat.reduceEqDiff, Nat.reduceMod, Nat.reduceDiv, Int.reduceAdd, Int.reduceSub, Int.reduceMul, Int.reduceLT, Int.reduceLE, Int.reduceEq, Int.reduceNeg, Int.reduceToNat, reduceIte, reduceCtorEq, Int.reduceBEq, Int.reduceBNe] at hfn
  try simp only [push_cast, Nat.reduceAdd, Nat.reduceSub, Nat.reduceMul, Nat.reduceLT, Nat.reduceLeDiff, Nat.reduceEqDiff, Nat.reduceMod, Nat.reduceDiv, Int.reduceAdd, Int.reduceSub, Int.reduceMul, Int.reduceLT, Int.reduceLE, Int.reduceEq, Int.reduceNeg, Int.reduceToNat, reduceIte, reduceCtorEq, Int.reduceBEq, Int.reduceBNe, hbq, hfn]
  have hne2 : ¬ b2 = b3 := fun h => hne h.symm
  refine rangeO gI0_ok (pl := plSum) Tryz.mix (Hc := [⟨b3, 0, .cel 3, [.int .i64 136]⟩, ⟨b2, 0, .cel 101, [.slice (some ⟨bq, 0, none⟩) T c0]⟩]) (Hm := []) (chunk1_ok (b2 := b2) (b3 := b3) (bq := bq) (k2 := .cel 101) (k3 := .cel 3) hTB hc (by omega) rfl (by simp [findE, hne2]) (by simp [findE])) rfl
    (X := List Nat) (fun a => ⟨b4, 0, .cel 114, lnC a⟩ :: ⟨bq, 0, .ro, byteV Q⟩ :: M)
    (fun k a => a = sumS Q k) (fun _ _ => False) (List.replicate 25 0)
    rfl ?_ ?_ rfl (by simp) (fun s => ?_) (fun s u e he => ?_) chkV_one (by kernel_rfl) (by kernel_rfl) (fun _ _ h => h.elim) ?_ ?_ (fun _ _ _ _ h => h.elim)
  · simp only [push_cast, Nat.reduceAdd, Nat.reduceSub, Nat.reduceMul, Nat.reduceLT, Nat.reduceLeDiff, Nat.reduceEqDiff, Nat.reduceMod, Nat.reduceDiv, Int.reduceAdd, Int.reduceSub, Int.reduceMul, Int.reduceLT, Int.reduceLE, Int.reduceEq, Int.reduceNeg, Int.reduceToNat, reduceIte, reduceCtorEq, Int.reduceBEq, Int.reduceBNe, hbq, hfn, hne, hne2]
    exact rfl
  · simp [marksOf, hm]
  · simp [marksOf, hm]
  · rcases List.mem_cons.1 he with rfl | he
    · exact .inl trivial
    · exact .inr (List.mem_cons_of_mem _ he)
  · rintro lo k a args hk2 ha
    obtain ⟨hk1, rfl⟩ := chkV_at hk2
    have hal : Ln 25 a := ha ▸ sumS_ln Q k
    have hst : sumS Q (k + 1) = permK (abS a ((Q.drop (136 * k)).take 136) 17) := by rw [ha]; rfl
    obtain ⟨p, hp⟩ : ∃ p, p = 136 * k := ⟨_, rfl⟩
    rw [← hp] at hst ⊢
    obtain ⟨bl, hbl⟩ : ∃ bl, bl = (Q.drop p).take 136 := ⟨_, rfl⟩
    rw [← hbl] at hst
    have hpT : p + 136 ≤ Q.length := by omega
    simp only [push_cast, Nat.reduceAdd, Nat.reduceSub, Nat.reduceMul, Nat.reduceLT, Nat.reduceLeDiff, Nat.reduceEqDiff, Nat.reduceMod, Nat.reduceDiv, Int.reduceAdd, Int.reduceSub, Int.reduceMul, Int.reduceLT, Int.reduceLE, Int.reduceEq, Int.reduceNeg, Int.reduceToNat, reduceIte, reduceCtorEq, Int.reduceBEq, Int.reduceBNe, hbq]
    refine ⟨hm, ⟨List.mem_cons_of_mem _ (List.mem_cons_self ..), roSub_of fun e he => .inr (List.mem_cons_of_mem _ (List.mem_cons_of_mem _ he))⟩, ?_⟩
    refine loopO gI0_ok (pl := plSum) Tryz.mix (X := Nat)
      (fun i => ([(4, .pointer (some ⟨b4, 0, none⟩)), (5, .slice (some ⟨bq, p, none⟩) 136 136), (17, .int .i64 i)], ⟨b4, 0, .cel 114, lnC (abS a bl i)⟩ :: ⟨bq, 0, .ro, byteV Q⟩ :: M))
      (fun i => i ≤ 17) (fun i => 17 - i) 0 ?_ ?_ (by kernel_rfl) ?_
    · exact Nat.zero_le _
    · simp only [push_cast, Nat.reduceAdd, Nat.reduceSub, Nat.reduceMul, Nat.reduceLT, Nat.reduceLeDiff, Nat.reduceEqDiff, Nat.reduceMod, Nat.reduceDiv, Int.reduceAdd, Int.reduceSub, Int.reduceMul, Int.reduceLT, Int.reduceLE, Int.reduceEq, Int.reduceNeg, Int.reduceToNat, reduceIte, reduceCtorEq, Int.reduceBEq, Int.reduceBNe, hbq]
      exact rfl
    · intro i hi
      have hA := abS_ln hal bl i
      have hB := abS_ln hal bl 17
      by_cases hc17 : i < 17
      · have hsi : abS a bl (i + 1) = (abS a bl i).set i (xorN (ln (abS a bl i) i) (lowN ((bl.drop (8 * i)).take 8))) := rfl
        obtain ⟨A, hAe⟩ : ∃ A, A = abS a bl i := ⟨_, rfl⟩
        rw [← hAe] at hA hsi ⊢
        obtain ⟨u, hu⟩ : ∃ u, u = 8 * i := ⟨_, rfl⟩
        obtain ⟨w, hw⟩ : ∃ w, w = 8 * (i + 1) := ⟨_, rfl⟩
        have e8 := blk_part (Q := Q) (p := p) (u := u) (by omega)
        rw [← hbl] at e8
        rw [← hu, e8] at hsi
        have eu : IntKind.i64.wrap (8 * (i : Int)) = (u : Int) := by
          rw [show 8 * (i : Int) = (u : Int) by omega]; exact IntWalk.i64_in _ (by omega)
        have ew : IntKind.i64.wrap (8 * ((i : Int) + 1)) = (w : Int) := by
          rw [show 8 * ((i : Int) + 1) = (w : Int) by omega]; exact IntWalk.i64_in _ (by omega)
        have i1 : (i : Int) < 17 := by omega
        have i0 : (0 : Int) ≤ i := by omega
        have i25 : (i : Int) < 25 := by omega
        have i26 : i + 1 ≤ 25 := by omega
        have w0 : (0 : Int) ≤ w := by omega
        have w1 : (w : Int) ≤ 136 := by omega
        have w2 : w ≤ 136 := by omega
        have u0 : (0 : Int) ≤ u := by omega
        have u1 : (u : Int) ≤ w := by omega
        have u2 : u ≤ w := by omega
        have u3 : ¬ (136 = u) := by omega
        have u4 : w - u = 8 := by omega
        have lA := hA.cl
        have a1 := lnC_at (a := A) (i := i) (by rw [hA.len]; omega)
        simp only [push_cast, Nat.reduceAdd, Nat.reduceSub, Nat.reduceMul, Nat.reduceLT, Nat.reduceLeDiff, Nat.reduceEqDiff, Nat.reduceMod, Nat.reduceDiv, Int.reduceAdd, Int.reduceSub, Int.reduceMul, Int.reduceLT, Int.reduceLE, Int.reduceEq, Int.reduceNeg, Int.reduceToNat, reduceIte, reduceCtorEq, Int.reduceBEq, Int.reduceBNe, hbq, hc17, i1]
        refine drawO gI0_ok Tryz.mix (Tryz.pl56 9) (by kernel_rfl) ?_
        simp only [push_cast, Nat.reduceAdd, Nat.reduceSub, Nat.reduceMul, Nat.reduceLT, Nat.reduceLeDiff, Nat.reduceEqDiff, Nat.reduceMod, Nat.reduceDiv, Int.reduceAdd, Int.reduceSub, Int.reduceMul, Int.reduceLT, Int.reduceLE, Int.reduceEq, Int.reduceNeg, Int.reduceToNat, reduceIte, reduceCtorEq, Int.reduceBEq, Int.reduceBNe, hbq, hc17, i0, i1, i25, i26, lA, a1, eu, ew, wrap_i64' (show -9223372036854775808 ≤ (i : Int) + 1 ∧ (i : Int) + 1 ≤ 9223372036854775807 by omega), w0, w1, w2, u0, u1, u2, u3, u4, Int.toNat_natCast]
        refine takeI [_] (low_R (byV_part (kd := .ro) (M := ⟨bq, 0, .ro, byteV Q⟩ :: M) (Q := Q) (o := p + u) (n := 8) (k := 136 - u) (by simp [findE]) (by omega)) (by rw [List.length_take]; omega)) ⟨⟨hbq.2.1, hbq.1, hb4⟩, trivial⟩ ?_
        have hlo := low8_lt (Q.drop (p + u))
        obtain ⟨x, hx⟩ : ∃ x, x = lowN ((Q.drop (p + u)).take 8) := ⟨_, rfl⟩
        rw [← hx] at hlo hsi ⊢
        have a3 := xor_u64 (hA.at i) hlo
        have a4 := lnC_set (a := A) (i := i) (x := xorN (ln A i) x) (by rw [hA.len]; omega)
        simp only [push_cast, Nat.reduceAdd, Nat.reduceSub, Nat.reduceMul, Nat.reduceLT, Nat.reduceLeDiff, Nat.reduceEqDiff, Nat.reduceMod, Nat.reduceDiv, Int.reduceAdd, Int.reduceSub, Int.reduceMul, Int.reduceLT, Int.reduceLE, Int.reduceEq, Int.reduceNeg, Int.reduceToNat, reduceIte, reduceCtorEq, Int.reduceBEq, Int.reduceBNe, hbq, hc17, i0, i1, i25, i26, lA, a3, a4, wrap_i64' (show -9223372036854775808 ≤ (i : Int) + 1 ∧ (i : Int) + 1 ≤ 9223372036854775807 by omega)]
        exact ⟨i + 1, hc17, by omega, rfl, by rw [hsi]⟩
      · obtain rfl : i = 17 := by omega
        have i1 : ¬ ((17 : Nat) : Int) < 17 := by omega
        simp only [push_cast, Nat.reduceAdd, Nat.reduceSub, Nat.reduceMul, Nat.reduceLT, Nat.reduceLeDiff, Nat.reduceEqDiff, Nat.reduceMod, Nat.reduceDiv, Int.reduceAdd, Int.reduceSub, Int.reduceMul, Int.reduceLT, Int.reduceLE, Int.reduceEq, Int.reduceNeg, Int.reduceToNat, reduceIte, reduceCtorEq, Int.reduceBEq, Int.reduceBNe, hbq, hc17, i1, hA.cl, lnC_take hA]
        refine useP [_, _] (perm_R hB hk) ⟨hb4, hbq4, trivial⟩ ?_
        rw [← hst]
        have hS := sumS_ln Q (k + 1)
        simp only [push_cast, Nat.reduceAdd, Nat.reduceSub, Nat.reduceMul, Nat.reduceLT, Nat.reduceLeDiff, Nat.reduceEqDiff, Nat.reduceMod, Nat.reduceDiv, Int.reduceAdd, Int.reduceSub, Int.reduceMul, Int.reduceLT, Int.reduceLE, Int.reduceEq, Int.reduceNeg, Int.reduceToNat, reduceIte, reduceCtorEq, Int.reduceBEq, Int.reduceBNe, hbq, hB.cl, hS.cl, lnC_one, lnC_drop hB, List.append_nil]
        exact ⟨_, rfl, rfl⟩
  · intro D a hD ha
    simp only [push_cast, Nat.reduceAdd, Nat.reduceSub, Nat.reduceMul, Nat.reduceLT, Nat.reduceLeDiff, Nat.reduceEqDiff, Nat.reduceMod, Nat.reduceDiv, Int.reduceAdd, Int.reduceSub, Int.reduceMul, Int.reduceLT, Int.reduceLE, Int.reduceEq, Int.reduceNeg, Int.reduceToNat, reduceIte, reduceCtorEq, Int.reduceBEq, Int.reduceBNe] at hD
    have ha : a = sumS Q B := by rw [← chkV_len bq B]; exact ha
    have hal : Ln 25 a := ha ▸ sumS_ln Q B
    rw [← ha]
    simp only [push_cast, Nat.reduceAdd, Nat.reduceSub, Nat.reduceMul, Nat.reduceLT, Nat.reduceLeDiff, Nat.reduceEqDiff, Nat.reduceMod, Nat.reduceDiv, Int.reduceAdd, Int.reduceSub, Int.reduceMul, Int.reduceLT, Int.reduceLE, Int.reduceEq, Int.reduceNeg, Int.reduceToNat, reduceIte, reduceCtorEq, Int.reduceBEq, Int.reduceBNe, hbq, hD]
    refine ⟨by unfold two47; decide, ?_⟩
    intro b7 hb7
    refine loopO gI0_ok (pl := plSum) Tryz.mix (X := Nat)
      (fun i => ([(4, .pointer (some ⟨b4, 0, none⟩)), (7, .slice (some ⟨b7, 0, none⟩) 32 32), (38, .int .i64 32), (39, .int .i64 i)], ⟨b7, 0, .vec 5 1 32, byteV (ouS a i)⟩ :: ⟨D, 0, .obj (.deferred (some [])), []⟩ :: ⟨b4, 0, .cel 114, lnC a⟩ :: ⟨bq, 0, .ro, byteV Q⟩ :: M))
      (fun i => i ≤ 32) (fun i => 32 - i) 0 ?_ ?_ (by kernel_rfl) ?_
    · exact Nat.zero_le _
    · simp only [push_cast, Nat.reduceAdd, Nat.reduceSub, Nat.reduceMul, Nat.reduceLT, Nat.reduceLeDiff, Nat.reduceEqDiff, Nat.reduceMod, Nat.reduceDiv, Int.reduceAdd, Int.reduceSub, Int.reduceMul, Int.reduceLT, Int.reduceLE, Int.reduceEq, Int.reduceNeg, Int.reduceToNat, reduceIte, reduceCtorEq, Int.reduceBEq, Int.reduceBNe, hbq, hD, hb7]
      exact rfl
    · intro i hi
      have hol := ouS_len a i
      by_cases hc32 : i < 32
      · have hsi : ouS a (i + 1) = (ouS a i).set i (UInt8.ofNat (ln a (i / 8) / 256 ^ (i % 8) % 256)) := rfl
        obtain ⟨o, ho⟩ : ∃ o, o = ouS a i := ⟨_, rfl⟩
        rw [← ho] at hol hsi ⊢
        obtain ⟨q, hq⟩ : ∃ q, q = i / 8 := ⟨_, rfl⟩
        obtain ⟨r, hr⟩ : ∃ r, r = i % 8 := ⟨_, rfl⟩
        rw [← hq, ← hr] at hsi
        have r8 : r < 8 := by omega
        have o8 := octet8 (hal.at q) r8
        obtain ⟨v, hv⟩ : ∃ v, v = ln a q / 256 ^ r % 256 := ⟨_, rfl⟩
        rw [← hv] at o8 hsi
        have hv2 : (UInt8.ofNat v).toNat = v := by
          have : v < 256 := by rw [hv]; exact Nat.mod_lt _ (by decide)
          simp [Nat.mod_eq_of_lt this]
        have et : (i : Int).tmod 8 = (r : Int) := by rw [Int.tmod_eq_emod_of_nonneg (by omega)]; omega
        have eq2 : (i : Int).tdiv 8 = (q : Int) := by rw [Int.tdiv_eq_ediv_of_nonneg (by omega)]; omega
        have i1 : (i : Int) < 32 := by omega
        have i0 : (0 : Int) ≤ i := by omega
        have i3 : i + 1 ≤ 32 := by omega
        have q0 : (0 : Int) ≤ q := by omega
        have q1 : (q : Int) < 25 := by omega
        have q2 : q + 1 ≤ 25 := by omega
        have r0 : ¬ (8 * (r : Int) < 0) := by omega
        have lo : (byteV o).length = 32 := by rw [byV_len, hol]
        have a1 := lnC_at (a := a) (i := q) (by rw [hal.len]; omega)
        have a2 := byV_set (a := o) (i := i) (x := UInt8.ofNat v) (by rw [hol]; exact hc32)
        rw [hv2, ← hsi] at a2
        simp only [push_cast, Nat.reduceAdd, Nat.reduceSub, Nat.reduceMul, Nat.reduceLT, Nat.reduceLeDiff, Nat.reduceEqDiff, Nat.reduceMod, Nat.reduceDiv, Int.reduceAdd, Int.reduceSub, Int.reduceMul, Int.reduceLT, Int.reduceLE, Int.reduceEq, Int.reduceNeg, Int.reduceToNat, reduceIte, reduceCtorEq, Int.reduceBEq, Int.reduceBNe, hbq, hD, hb7, hc32, i0, i1, i3, q0, q1, q2, et, eq2, wrap_i64' (show -9223372036854775808 ≤ (q : Int) ∧ (q : Int) ≤ 9223372036854775807 by omega), wrap_i64' (show -9223372036854775808 ≤ 8 * (r : Int) ∧ 8 * (r : Int) ≤ 9223372036854775807 by omega), r0, hal.cl, a1, o8, lo, a2, wrap_i64' (show -9223372036854775808 ≤ (i : Int) + 1 ∧ (i : Int) + 1 ≤ 9223372036854775807 by omega)]
        exact ⟨i + 1, hc32, by omega, rfl, rfl⟩
      · obtain rfl : i = 32 := by omega
        have i1 : ¬ ((32 : Nat) : Int) < 32 := by omega
        have lo : (byteV (ouS a 32)).length = 32 := by rw [byV_len, hol]
        simp only [push_cast, Nat.reduceAdd, Nat.reduceSub, Nat.reduceMul, Nat.reduceLT, Nat.reduceLeDiff, Nat.reduceEqDiff, Nat.reduceMod, Nat.reduceDiv, Int.reduceAdd, Int.reduceSub, Int.reduceMul, Int.reduceLT, Int.reduceLE, Int.reduceEq, Int.reduceNeg, Int.reduceToNat, reduceIte, reduceCtorEq, Int.reduceBEq, Int.reduceBNe, hbq, hD, hb7, hc32, i1, lo, (List.take_of_length_le (Nat.le_of_eq lo) : List.take 32 (byteV (ouS a 32)) = _), bytesOf_byteV]
end Go.Proofs.YtpcjmmdgopihcaaGreatDoor
set_option linter.unusedSimpArgs false
set_option linter.unusedVariables false
namespace Go.Ev
def rot2 (x k : Nat) : Nat := ((x * 2 ^ k) % 18446744073709551616) ||| (x / 2 ^ (64 - k))
def thC2 (a : List Nat) : Nat → List Nat
  | 0 => List.replicate 5 0
  | k + 1 => let c := thC2 a k; c.set (k % 5) (ln c (k % 5) ^^^ ln a k)
def thA2 (a c : List Nat) : Nat → List Nat
  | 0 => a
  | k + 1 => let z := thA2 a c k; z.set k (ln z k ^^^ (ln c ((k % 5 + 4) % 5) ^^^ rot2 (ln c ((k % 5 + 1) % 5)) 1))
def tnS2 (a : List Nat) : Nat → Nat × Nat × List Nat
  | 0 => (1, 0, (List.replicate 25 0).set 0 (ln a 0))
  | t + 1 => let s := tnS2 a t; (s.2.1, (2 * s.1 + 3 * s.2.1) % 5, s.2.2.set (5 * ((2 * s.1 + 3 * s.2.1) % 5) + s.2.1) (rot2 (ln a (5 * s.2.1 + s.1)) ((t + 1) * (t + 2) / 2 % 64)))
def chS2 (a : List Nat) : Nat → List Nat
  | 0 => List.replicate 25 0
  | k + 1 => (chS2 a k).set k (ln a k ^^^ (ln a (5 * (k / 5) + (k % 5 + 2) % 5) &&& (18446744073709551615 - ln a (5 * (k / 5) + (k % 5 + 1) % 5))))
def rd2 (a : List Nat) (c : Nat) : List Nat := let b := chS2 (tnS2 (let z := thC2 a 25; thA2 a z 25) 24).2.2 25; b.set 0 (ln b 0 ^^^ c)
def pmS2 (a : List Nat) : Nat → List Nat
  | 0 => a
  | k + 1 => rd2 (pmS2 a k) (ln consK k)
def abS2 (a : List Nat) (b : List UInt8) : Nat → List Nat
  | 0 => a
  | i + 1 => let z := abS2 a b i; z.set i (ln z i ^^^ lowN ((b.drop (8 * i)).take 8))
theorem thC2_eq (a : List Nat) : ∀ k, thC a k = thC2 a k
  | 0 => rfl
  | k + 1 => by rw [thC, thC2, thC2_eq a k, xorN_eq]
theorem thA2_eq (a c : List Nat) : ∀ k, thA a c k = thA2 a c k
  | 0 => rfl
  | k + 1 => by rw [thA, thA2, thA2_eq a c k, xorN_eq, xorN_eq, rot_eq]; rfl
theorem tnS2_eq (a : List Nat) : ∀ k, tnS a k = tnS2 a k
  | 0 => rfl
  | k + 1 => by rw [tnS, tnS2, tnS2_eq a k, rot_eq]; rfl
theorem chS2_eq (a : List Nat) : ∀ k, chS a k = chS2 a k
  | 0 => rfl
  | k + 1 => by rw [chS, chS2, chS2_eq a k, xorN_eq, anN_eq]
theorem pmS2_eq (a : List Nat) : ∀ k, pmS a k = pmS2 a k
  | 0 => rfl
  | k + 1 => by rw [pmS, pmS2, pmS2_eq a k, chiK_eq, turnK_eq, thetaK_eq, xorN_eq, chS2_eq, tnS2_eq, thA2_eq, thC2_eq]; rfl
theorem abS2_eq (a : List Nat) (b : List UInt8) : ∀ k, abS a b k = abS2 a b k
  | 0 => rfl
  | k + 1 => by rw [abS, abS2, abS2_eq a b k, xorN_eq]
theorem keccK_one (l : List UInt8) (h : l.length = 1) : keccK l = ouS (pmS2 (abS2 (List.replicate 25 0) ((padK l).take 136) 17) 24) 32 := by
  have hl : (padK l).length = 136 := by rw [padK_len, h]; rfl
  rw [keccK_eq, hl, show 136 / 136 = 1 from rfl, sumS, sumS, permK_eq, pmS2_eq, abS2_eq, Nat.mul_zero, List.drop_zero]
def ou2 (a : List Nat) : Nat → List UInt8
  | 0 => List.replicate 32 0
  | i + 1 => (ou2 a i).set i (UInt8.ofNat (ln a (i / 8) / 256 ^ (i % 8) % 256))
theorem ou2_eq (a : List Nat) : ∀ k, ouS a k = ou2 a k
  | 0 => rfl
  | k + 1 => by rw [ouS, ou2, ou2_eq a k]
def pad2 (l : List UInt8) : List UInt8 := orL (padJ l (padJ_many l.length))
theorem kecc_c0 : (keccK [192]).take 2 = [29, 204] := by
  rw [keccK_one _ rfl, ou2_eq, show padK [192] = pad2 [192] from rfl]
  decide +kernel
end Go.Ev
set_option linter.unusedSimpArgs false
set_option linter.unusedVariables false
namespace Go.Ev
theorem cellsAt_open {M : Hp} {b n : Nat} {l : List Value} (h : cellsAt M b 0 n = some l) : ∃ kd cs, findE M b = some ⟨b, 0, kd, cs⟩ ∧ n ≤ cs.length ∧ List.take n cs = l := by
  unfold cellsAt at h
  cases he : findE M b with
  | none => rw [he] at h; cases h
  | some e =>
    rw [he] at h
    have hb := (findE_mem he).2
    obtain ⟨b, f, kd, cs⟩ := e
    dsimp only at hb h
    subst hb
    by_cases hf : f ≤ 0
    · obtain rfl := Nat.le_zero.1 hf
      rw [if_pos hf] at h
      unfold subL at h
      split at h
      · rename_i h2
        refine ⟨kd, cs, rfl, by omega, ?_⟩
        have := Option.some.inj h
        rw [Nat.sub_self, List.drop_zero] at this
        exact this
      · cases h
    · rw [if_neg hf] at h; cases h
theorem subH_rotI {e : Ent} : ∀ {Hc : Hp}, fresh e.blk Hc → subH (e :: Hc) (Hc ++ [e])
  | [], _ => by
    refine ⟨by simp [findE], ?_⟩
    exact trivial
  | x :: r, h => by
    have h1 : ¬ x.blk = e.blk := h.2.1
    refine ⟨by simp [findE, h1], ?_⟩
    have : remE (e :: x :: r) x.blk = e :: r := by simp [remE, h1]
    rw [this]
    exact subH_rotI h.2.2
def itE : List Value := [.bool true, .string .empty, .slice none 0 0]
end Go.Ev
namespace Go.Proofs.YtpcjmmdgopihcaaGreatDoor
open Go Go.Ev Go.Proofs
set_option maxRecDepth 100000
set_option maxHeartbeats 4000000
theorem values0_ok {Hc : Hp} {b : Nat} {k : Kind} (hmc : marksOf Hc = []) (h : findE Hc b = some ⟨b, 0, k, [.slice none 0 0]⟩) : IterV Tryz.prog 124 [.pointer (some ⟨b, 0, none⟩)] Hc [] := by
  refine ⟨enterO Tryz.func124 rfl rfl, fun X Ho I St l x0 hro hmk h0 hy => ?_⟩
  have h' := fun z => findE_appT (B := Ho z) h
  have hm0 : marksOf (Hc ++ Ho x0) = [] := by rw [marks_append, hmc, hmk]; rfl
  refine callsO gI0_ok Tryz.mix Tryz.pl124 Tryz.func124 rfl Tryz.ntmps124 Tryz.results124 rfl (by first | rfl | assumption) (Nat.le_of_ble_eq_true rfl) (by kernel_rfl) ?_
  simp only [push_cast, Nat.reduceAdd, Nat.reduceSub, Nat.reduceMul, Nat.reduceLT, Nat.reduceLeDiff, Nat.reduceEqDiff, Nat.reduceMod, Nat.reduceDiv, Int.reduceAdd, Int.reduceSub, Int.reduceMul, Int.reduceLT, Int.reduceLE, Int.reduceEq, Int.reduceNeg, Int.reduceToNat, reduceIte, reduceCtorEq, Int.reduceBEq, Int.reduceBNe, h']
  refine unrollO gI0_ok (pl := Tryz.pl124) Tryz.mix 1 (by kernel_rfl) ?_
  simp only [push_cast, Nat.reduceAdd, Nat.reduceSub, Nat.reduceMul, Nat.reduceLT, Nat.reduceLeDiff, Nat.reduceEqDiff, Nat.reduceMod, Nat.reduceDiv, Int.reduceAdd, Int.reduceSub, Int.reduceMul, Int.reduceLT, Int.reduceLE, Int.reduceEq, Int.reduceNeg, Int.reduceToNat, reduceIte, reduceCtorEq, Int.reduceBEq, Int.reduceBNe, h']
  refine ⟨Ho x0, ?_, x0, .inl h0, rfl⟩
  rw [dropM_eq (by rw [marks_append, hmc, hmk]; rfl)]
  exact List.sublist_append_right _ _
theorem items0_ok {Hc : Hp} {b c : Nat} {k : Kind} (hmc : marksOf Hc = []) (h : findE Hc b = some ⟨b, 0, k, [.slice none 0 0]⟩) : IterV Tryz.prog 76 [.pointer (some ⟨b, 0, none⟩), .pointer (some ⟨c, 0, none⟩)] Hc [] := by
  refine ⟨enterO Tryz.func76 rfl rfl, fun X Ho I St l x0 hro hmk h0 hy => ?_⟩
  have h' := fun z => findE_appT (B := Ho z) h
  have hm0 : marksOf (Hc ++ Ho x0) = [] := by rw [marks_append, hmc, hmk]; rfl
  refine callsO gI0_ok Tryz.mix Tryz.pl76 Tryz.func76 rfl Tryz.ntmps76 Tryz.results76 rfl (by first | rfl | assumption) (Nat.le_of_ble_eq_true rfl) (by kernel_rfl) ?_
  simp only [push_cast, Nat.reduceAdd, Nat.reduceSub, Nat.reduceMul, Nat.reduceLT, Nat.reduceLeDiff, Nat.reduceEqDiff, Nat.reduceMod, Nat.reduceDiv, Int.reduceAdd, Int.reduceSub, Int.reduceMul, Int.reduceLT, Int.reduceLE, Int.reduceEq, Int.reduceNeg, Int.reduceToNat, reduceIte, reduceCtorEq, Int.reduceBEq, Int.reduceBNe, h']
  refine unrollO gI0_ok (pl := Tryz.pl76) Tryz.mix 1 (by kernel_rfl) ?_
  simp only [push_cast, Nat.reduceAdd, Nat.reduceSub, Nat.reduceMul, Nat.reduceLT, Nat.reduceLeDiff, Nat.reduceEqDiff, Nat.reduceMod, Nat.reduceDiv, Int.reduceAdd, Int.reduceSub, Int.reduceMul, Int.reduceLT, Int.reduceLE, Int.reduceEq, Int.reduceNeg, Int.reduceToNat, reduceIte, reduceCtorEq, Int.reduceBEq, Int.reduceBNe, h']
  refine ⟨Ho x0, ?_, x0, .inl h0, rfl⟩
  rw [dropM_eq (by rw [marks_append, hmc, hmk]; rfl)]
  exact List.sublist_append_right _ _
theorem valuesI_ok : CallsV Tryz.prog 102 [.slice none 0 0] [] (fun v N => ∃ b, v = .func (.func 124) #[] #[.pointer (some ⟨b, 0, none⟩)] ∧ N = [⟨b, 0, .cel 88, [.slice none 0 0]⟩]) := by
  refine callsO gI0_ok Tryz.mix Tryz.pl102 Tryz.func102 rfl Tryz.ntmps102 Tryz.results102 rfl (by first | rfl | assumption) (Nat.le_of_ble_eq_true rfl) (by kernel_rfl) ?_
  simp only [push_cast, Nat.reduceAdd, Nat.reduceSub, Nat.reduceMul, Nat.reduceLT, Nat.reduceLeDiff, Nat.reduceEqDiff, Nat.reduceMod, Nat.reduceDiv, Int.reduceAdd, Int.reduceSub, Int.reduceMul, Int.reduceLT, Int.reduceLE, Int.reduceEq, Int.reduceNeg, Int.reduceToNat, reduceIte, reduceCtorEq, Int.reduceBEq, Int.reduceBNe]
  intro b
  try simp only [push_cast, Nat.reduceAdd, Nat.reduceSub, Nat.reduceMul, Nat.reduceLT, Nat.reduceLeDiff, Nat.reduceEqDiff, Nat.reduceMod, Nat.reduceDiv, Int.reduceAdd, Int.reduceSub, Int.reduceMul, Int.reduceLT, Int.reduceLE, Int.reduceEq, Int.reduceNeg, Int.reduceToNat, reduceIte, reduceCtorEq, Int.reduceBEq, Int.reduceBNe]
  exact ⟨[_], List.Sublist.refl _, b, rfl, rfl⟩
theorem items_ok : CallsV Tryz.prog 55 [.slice none 0 0] [] (fun v N => ∃ b c, v = .func (.func 76) #[] #[.pointer (some ⟨b, 0, none⟩), .pointer (some ⟨c, 0, none⟩)] ∧ N = [⟨c, 0, .cel 110, [.func (.func 74) #[] #[]]⟩, ⟨b, 0, .cel 22, [.slice none 0 0]⟩] ∧ ¬ b = c) := by
  refine callsO gI0_ok Tryz.mix Tryz.pl55 Tryz.func55 rfl Tryz.ntmps55 Tryz.results55 rfl (by first | rfl | assumption) (Nat.le_of_ble_eq_true rfl) (by kernel_rfl) ?_
  simp only [push_cast, Nat.reduceAdd, Nat.reduceSub, Nat.reduceMul, Nat.reduceLT, Nat.reduceLeDiff, Nat.reduceEqDiff, Nat.reduceMod, Nat.reduceDiv, Int.reduceAdd, Int.reduceSub, Int.reduceMul, Int.reduceLT, Int.reduceLE, Int.reduceEq, Int.reduceNeg, Int.reduceToNat, reduceIte, reduceCtorEq, Int.reduceBEq, Int.reduceBNe]
  intro b c hc
  try simp only [push_cast, Nat.reduceAdd, Nat.reduceSub, Nat.reduceMul, Nat.reduceLT, Nat.reduceLeDiff, Nat.reduceEqDiff, Nat.reduceMod, Nat.reduceDiv, Int.reduceAdd, Int.reduceSub, Int.reduceMul, Int.reduceLT, Int.reduceLE, Int.reduceEq, Int.reduceNeg, Int.reduceToNat, reduceIte, reduceCtorEq, Int.reduceBEq, Int.reduceBNe, hc]
  exact ⟨[_, _], List.Sublist.refl _, b, c, rfl, rfl, hc.2⟩
theorem appItems0_ok {gf : FuncId} {caps : List Value} {Hc : Hp} (hit : IterV Tryz.prog gf caps Hc []) (hmc : marksOf Hc = []) : CallsV Tryz.prog 73 [.slice none 0 0, .func (.func gf) #[] caps.toArray] Hc (Ret0 (.slice none 0 0)) := by
  refine callsO gI0_ok Tryz.mix Tryz.pl73 Tryz.func73 rfl Tryz.ntmps73 Tryz.results73 rfl (by first | rfl | assumption) (Nat.le_of_ble_eq_true rfl) (by kernel_rfl) ?_
  simp only [push_cast, Nat.reduceAdd, Nat.reduceSub, Nat.reduceMul, Nat.reduceLT, Nat.reduceLeDiff, Nat.reduceEqDiff, Nat.reduceMod, Nat.reduceDiv, Int.reduceAdd, Int.reduceSub, Int.reduceMul, Int.reduceLT, Int.reduceLE, Int.reduceEq, Int.reduceNeg, Int.reduceToNat, reduceIte, reduceCtorEq, Int.reduceBEq, Int.reduceBNe]
  intro b2 hb2
  refine rangeO gI0_ok (pl := Tryz.pl73) Tryz.mix (Hc := Hc) (Hm := []) hit rfl
    (X := Unit) (fun _ => [⟨b2, 0, .cel 88, [.slice none 0 0]⟩]) (fun _ _ => True) (fun _ _ => False) ()
    trivial ?_ ?_ hmc (by simp) (fun s => rfl) (fun s u e he => .inl ?_) (by simp) (by kernel_rfl) (by kernel_rfl) (fun _ _ h => h.elim) (fun _ _ _ _ h => by simp at h) ?_ (fun _ _ _ _ h => h.elim)
  · exact subH_rotI hb2
  · simp [marksOf, hmc]
  · simp at he; subst he; trivial
  · intro D x hD _
    simp only [push_cast, Nat.reduceAdd, Nat.reduceSub, Nat.reduceMul, Nat.reduceLT, Nat.reduceLeDiff, Nat.reduceEqDiff, Nat.reduceMod, Nat.reduceDiv, Int.reduceAdd, Int.reduceSub, Int.reduceMul, Int.reduceLT, Int.reduceLE, Int.reduceEq, Int.reduceNeg, Int.reduceToNat, reduceIte, reduceCtorEq, Int.reduceBEq, Int.reduceBNe] at hD
    simp only [push_cast, Nat.reduceAdd, Nat.reduceSub, Nat.reduceMul, Nat.reduceLT, Nat.reduceLeDiff, Nat.reduceEqDiff, Nat.reduceMod, Nat.reduceDiv, Int.reduceAdd, Int.reduceSub, Int.reduceMul, Int.reduceLT, Int.reduceLE, Int.reduceEq, Int.reduceNeg, Int.reduceToNat, reduceIte, reduceCtorEq, Int.reduceBEq, Int.reduceBNe, hD]
theorem collect0_ok {gf : FuncId} {caps : List Value} {Hc : Hp} (hit : IterV Tryz.prog gf caps Hc []) (hmc : marksOf Hc = []) (hd : derE Hc Hc) : CallsV Tryz.prog 54 [.func (.func gf) #[] caps.toArray] Hc (Ret0 (.slice none 0 0)) := by
  refine callsO gI0_ok Tryz.mix Tryz.pl54 Tryz.func54 rfl Tryz.ntmps54 Tryz.results54 rfl (by first | rfl | assumption) (Nat.le_of_ble_eq_true rfl) (by kernel_rfl) ?_
  simp only [push_cast, Nat.reduceAdd, Nat.reduceSub, Nat.reduceMul, Nat.reduceLT, Nat.reduceLeDiff, Nat.reduceEqDiff, Nat.reduceMod, Nat.reduceDiv, Int.reduceAdd, Int.reduceSub, Int.reduceMul, Int.reduceLT, Int.reduceLE, Int.reduceEq, Int.reduceNeg, Int.reduceToNat, reduceIte, reduceCtorEq, Int.reduceBEq, Int.reduceBNe]
  refine (appItems0_ok hit hmc).pure hd ?_
  simp only [push_cast, Nat.reduceAdd, Nat.reduceSub, Nat.reduceMul, Nat.reduceLT, Nat.reduceLeDiff, Nat.reduceEqDiff, Nat.reduceMod, Nat.reduceDiv, Int.reduceAdd, Int.reduceSub, Int.reduceMul, Int.reduceLT, Int.reduceLE, Int.reduceEq, Int.reduceNeg, Int.reduceToNat, reduceIte, reduceCtorEq, Int.reduceBEq, Int.reduceBNe]
theorem list0_ok : CallsV Tryz.prog 53 [.slice none 0 0] [] (Ret0 (.agg itE.toArray)) := by
  refine callsO gI0_ok Tryz.mix Tryz.pl53 Tryz.func53 rfl Tryz.ntmps53 Tryz.results53 rfl (by first | rfl | assumption) (Nat.le_of_ble_eq_true rfl) (by kernel_rfl) ?_
  simp only [push_cast, Nat.reduceAdd, Nat.reduceSub, Nat.reduceMul, Nat.reduceLT, Nat.reduceLeDiff, Nat.reduceEqDiff, Nat.reduceMod, Nat.reduceDiv, Int.reduceAdd, Int.reduceSub, Int.reduceMul, Int.reduceLT, Int.reduceLE, Int.reduceEq, Int.reduceNeg, Int.reduceToNat, reduceIte, reduceCtorEq, Int.reduceBEq, Int.reduceBNe]
  exact rfl
theorem all_ok : CallsV Tryz.prog 100 [.agg itE.toArray, .int .i64 1] [] (fun v N => ∃ b c, v = .func (.func 121) #[] #[.pointer (some ⟨c, 0, none⟩), .pointer (some ⟨b, 0, none⟩)] ∧ N = [⟨c, 0, .cel 3, [.int .i64 1]⟩, ⟨b, 0, .cel 90, itE⟩] ∧ ¬ c = b ∧ ¬ b = c) := by
  refine callsO gI0_ok Tryz.mix Tryz.pl100 Tryz.func100 rfl Tryz.ntmps100 Tryz.results100 rfl (by first | rfl | assumption) (Nat.le_of_ble_eq_true rfl) (by kernel_rfl) ?_
  simp only [push_cast, Nat.reduceAdd, Nat.reduceSub, Nat.reduceMul, Nat.reduceLT, Nat.reduceLeDiff, Nat.reduceEqDiff, Nat.reduceMod, Nat.reduceDiv, Int.reduceAdd, Int.reduceSub, Int.reduceMul, Int.reduceLT, Int.reduceLE, Int.reduceEq, Int.reduceNeg, Int.reduceToNat, reduceIte, reduceCtorEq, Int.reduceBEq, Int.reduceBNe]
  intro b c hc
  try simp only [push_cast, Nat.reduceAdd, Nat.reduceSub, Nat.reduceMul, Nat.reduceLT, Nat.reduceLeDiff, Nat.reduceEqDiff, Nat.reduceMod, Nat.reduceDiv, Int.reduceAdd, Int.reduceSub, Int.reduceMul, Int.reduceLT, Int.reduceLE, Int.reduceEq, Int.reduceNeg, Int.reduceToNat, reduceIte, reduceCtorEq, Int.reduceBEq, Int.reduceBNe, hc]
  exact ⟨[_, _], List.Sublist.refl _, b, c, rfl, rfl, hc.1, hc.2⟩
theorem all1_ok {Hc : Hp} {b c : Nat} {kb kc : Kind} (hmc : marksOf Hc = []) (hb : findE Hc b = some ⟨b, 0, kb, itE⟩) (hc : findE Hc c = some ⟨c, 0, kc, [.int .i64 1]⟩) :
    IterV Tryz.prog 121 [.pointer (some ⟨c, 0, none⟩), .pointer (some ⟨b, 0, none⟩)] Hc [[.int .i64 1, .agg itE.toArray]] := by
  refine ⟨enterO Tryz.func121 rfl rfl, fun X Ho I St l x0 hro hmk h0 hy => ?_⟩
  have hmarks : ∀ x, marksOf (Hc ++ Ho x) = [] := fun x => by rw [marks_append, hmc, hmk]; rfl
  have hm0 := hmarks x0
  have hb' := fun z => findE_appT (B := Ho z) hb
  have hc' := fun z => findE_appT (B := Ho z) hc
  have yl : ∀ (e : Ent) (K' : Value → Hp → Prop), marksOf [e] = [] → (∀ x', I 1 x' → K' (.bool true) (Hc ++ (Ho x' ++ [e]))) → (∀ x', St x' → K' (.bool false) (Hc ++ (Ho x' ++ [e]))) → YieldV Tryz.prog l [.int .i64 1, .agg itE.toArray] (e :: (Hc ++ Ho x0)) K' := fun e K' hm ht hf => by
    refine (hy 0 x0 [.int .i64 1, .agg itE.toArray] rfl h0).frame2 ?_ hm ?_
    · rintro v H' (⟨rfl, x', _, rfl⟩ | ⟨rfl, x', _, rfl⟩) <;> exact hro x0 x'
    · rintro v H' (⟨rfl, x', h, rfl⟩ | ⟨rfl, x', h, rfl⟩)
      · exact ht x' h
      · exact hf x' h
  have yf : ∀ (x' : X) (e : Ent), marksOf [e] = [] → (I 1 x' ∨ St x') → ∃ H'_1, List.Sublist H'_1 (dropM (Hc ++ (Ho x' ++ [e]))) ∧ ∃ x, (I 1 x ∨ St x) ∧ H'_1 = Ho x := fun x' e hm hst => by
    refine ⟨Ho x', ?_, x', hst, rfl⟩
    rw [← List.append_assoc, dropM_eq (by rw [marks_append, hmarks, hm]; rfl)]
    exact (List.sublist_append_right _ _).trans (List.sublist_append_left _ _)
  have ei : itE = [.bool true, .string .empty, .slice none 0 0] := rfl
  refine callsO gI0_ok Tryz.mix Tryz.pl121 Tryz.func121 rfl Tryz.ntmps121 Tryz.results121 rfl (by first | rfl | assumption) (Nat.le_of_ble_eq_true rfl) (by kernel_rfl) ?_
  simp only [push_cast, Nat.reduceAdd, Nat.reduceSub, Nat.reduceMul, Nat.reduceLT, Nat.reduceLeDiff, Nat.reduceEqDiff, Nat.reduceMod, Nat.reduceDiv, Int.reduceAdd, Int.reduceSub, Int.reduceMul, Int.reduceLT, Int.reduceLE, Int.reduceEq, Int.reduceNeg, Int.reduceToNat, reduceIte, reduceCtorEq, Int.reduceBEq, Int.reduceBNe]
  intro b3 hb3
  have d1 := (fresh_findS hb3 (hb' x0)).2
  have d2 := (fresh_findS hb3 (hc' x0)).2
  have il : itE.length = 3 := rfl
  have it3 : List.take 3 itE = itE := rfl
  have it2 : List.take 1 (List.drop 2 itE) = [.slice none 0 0] := rfl
  try simp only [push_cast, Nat.reduceAdd, Nat.reduceSub, Nat.reduceMul, Nat.reduceLT, Nat.reduceLeDiff, Nat.reduceEqDiff, Nat.reduceMod, Nat.reduceDiv, Int.reduceAdd, Int.reduceSub, Int.reduceMul, Int.reduceLT, Int.reduceLE, Int.reduceEq, Int.reduceNeg, Int.reduceToNat, reduceIte, reduceCtorEq, Int.reduceBEq, Int.reduceBNe, d1, d2, hb', hc', il, it3]
  refine yl ⟨b3, 0, .cel 149, [.func (.yield l) #[] #[]]⟩ _ rfl (fun x' hx' => ?_) (fun x' hx' => ?_)
  · have hb2 := findE_appT (B := Ho x' ++ [⟨b3, 0, .cel 149, [.func (.yield l) #[] #[]]⟩]) hb
    have hc2 := findE_appT (B := Ho x' ++ [⟨b3, 0, .cel 149, [.func (.yield l) #[] #[]]⟩]) hc
    have hm2 : marksOf (Hc ++ (Ho x' ++ [⟨b3, 0, .cel 149, [.func (.yield l) #[] #[]]⟩])) = [] := by rw [← List.append_assoc, marks_append, hmarks]; rfl
    simp only [push_cast, Nat.reduceAdd, Nat.reduceSub, Nat.reduceMul, Nat.reduceLT, Nat.reduceLeDiff, Nat.reduceEqDiff, Nat.reduceMod, Nat.reduceDiv, Int.reduceAdd, Int.reduceSub, Int.reduceMul, Int.reduceLT, Int.reduceLE, Int.reduceEq, Int.reduceNeg, Int.reduceToNat, reduceIte, reduceCtorEq, Int.reduceBEq, Int.reduceBNe, hb2, hc2, il, it2]
    refine unrollO gI0_ok (pl := Tryz.pl121) Tryz.mix 1 (by kernel_rfl) ?_
    simp only [push_cast, Nat.reduceAdd, Nat.reduceSub, Nat.reduceMul, Nat.reduceLT, Nat.reduceLeDiff, Nat.reduceEqDiff, Nat.reduceMod, Nat.reduceDiv, Int.reduceAdd, Int.reduceSub, Int.reduceMul, Int.reduceLT, Int.reduceLE, Int.reduceEq, Int.reduceNeg, Int.reduceToNat, reduceIte, reduceCtorEq, Int.reduceBEq, Int.reduceBNe, hb2, hc2]
    exact yf x' _ rfl (.inl hx')
  · simp only [push_cast, Nat.reduceAdd, Nat.reduceSub, Nat.reduceMul, Nat.reduceLT, Nat.reduceLeDiff, Nat.reduceEqDiff, Nat.reduceMod, Nat.reduceDiv, Int.reduceAdd, Int.reduceSub, Int.reduceMul, Int.reduceLT, Int.reduceLE, Int.reduceEq, Int.reduceNeg, Int.reduceToNat, reduceIte, reduceCtorEq, Int.reduceBEq, Int.reduceBNe]
    exact yf x' _ rfl (.inr hx')
def plRR0 : Plans := fun i => if i = 6 then [(0, 9)] else Tryz.pl71 i
attribute [push_cast] plRR0
theorem rright0_ok : CallsV Tryz.prog 71 [.agg itE.toArray] [] (Ret0 (.bool true)) := by
  have ei : itE = [.bool true, .string .empty, .slice none 0 0] := rfl
  refine callsO gI0_ok Tryz.mix plRR0 Tryz.func71 rfl Tryz.ntmps71 Tryz.results71 rfl (by first | rfl | assumption) (Nat.le_of_ble_eq_true rfl) (by kernel_rfl) ?_
  simp only [push_cast, Nat.reduceAdd, Nat.reduceSub, Nat.reduceMul, Nat.reduceLT, Nat.reduceLeDiff, Nat.reduceEqDiff, Nat.reduceMod, Nat.reduceDiv, Int.reduceAdd, Int.reduceSub, Int.reduceMul, Int.reduceLT, Int.reduceLE, Int.reduceEq, Int.reduceNeg, Int.reduceToNat, reduceIte, reduceCtorEq, Int.reduceBEq, Int.reduceBNe]
  intro b1 b2 hb2 b3 hb3
  try simp only [push_cast, Nat.reduceAdd, Nat.reduceSub, Nat.reduceMul, Nat.reduceLT, Nat.reduceLeDiff, Nat.reduceEqDiff, Nat.reduceMod, Nat.reduceDiv, Int.reduceAdd, Int.reduceSub, Int.reduceMul, Int.reduceLT, Int.reduceLE, Int.reduceEq, Int.reduceNeg, Int.reduceToNat, reduceIte, reduceCtorEq, Int.reduceBEq, Int.reduceBNe, hb2, hb3]
  refine (all_ok).use trivial ?_
  rintro _ _ ⟨bx, bd, rfl, rfl, hne, hne2⟩
  refine ⟨⟨trivial, trivial, trivial⟩, rfl, fun hfn => ?_⟩
  simp only [push_cast, Nat.reduceAdd, Nat.reduceSub, Nat.reduceMul, Nat.reduceLT, Nat.reduceLeDiff, Nat.reduceEqDiff, Nat.reduceMod, Nat.reduceDiv, Int.reduceAdd, Int.reduceSub, Int.reduceMul, Int.reduceLT, Int.reduceLE, Int.reduceEq, Int.reduceNeg, Int.reduceToNat, reduceIte, reduceCtorEq, Int.reduceBEq, Int.reduceBNe] at hfn
  try simp only [push_cast, Nat.reduceAdd, Nat.reduceSub, Nat.reduceMul, Nat.reduceLT, Nat.reduceLeDiff, Nat.reduceEqDiff, Nat.reduceMod, Nat.reduceDiv, Int.reduceAdd, Int.reduceSub, Int.reduceMul, Int.reduceLT, Int.reduceLE, Int.reduceEq, Int.reduceNeg, Int.reduceToNat, reduceIte, reduceCtorEq, Int.reduceBEq, Int.reduceBNe, hb2, hb3, hfn]
  refine rangeO gI0_ok (pl := plRR0) Tryz.mix (Hc := [⟨bd, 0, .cel 3, [.int .i64 1]⟩, ⟨bx, 0, .cel 90, itE⟩]) (Hm := []) (all1_ok (b := bx) (c := bd) (kb := .cel 90) (kc := .cel 3) rfl (by simp [findE, hne2]) (by simp [findE])) rfl
    (X := Nat) (fun m => [⟨b3, 0, .cel 3, [.int .i64 m]⟩, ⟨b2, 0, .cel 4, [.bool false]⟩, ⟨b1, 0, .cel 90, itE⟩])
    (fun k m => m = k) (fun _ _ => False) 0
    rfl ?_ rfl rfl (by simp) (fun s => rfl) (fun s u e he => .inl ?_) (by simp) (by kernel_rfl) (by kernel_rfl) (fun _ _ h => h.elim) ?_ ?_ (fun _ _ _ _ h => h.elim)
  · simp only [push_cast, Nat.reduceAdd, Nat.reduceSub, Nat.reduceMul, Nat.reduceLT, Nat.reduceLeDiff, Nat.reduceEqDiff, Nat.reduceMod, Nat.reduceDiv, Int.reduceAdd, Int.reduceSub, Int.reduceMul, Int.reduceLT, Int.reduceLE, Int.reduceEq, Int.reduceNeg, Int.reduceToNat, reduceIte, reduceCtorEq, Int.reduceBEq, Int.reduceBNe, hb2, hb3, hfn, hne, hne2]
  · simp at he; rcases he with rfl | rfl | rfl <;> trivial
  · rintro lo k m args hk rfl
    obtain ⟨rfl, rfl⟩ : m = 0 ∧ args = [.int .i64 1, .agg itE.toArray] := by
      cases m with
      | zero => exact ⟨rfl, (Option.some.inj hk).symm⟩
      | succ n => simp at hk
    have w1 : IntKind.i64.wrap 1 = 1 := by decide
    simp only [push_cast, Nat.reduceAdd, Nat.reduceSub, Nat.reduceMul, Nat.reduceLT, Nat.reduceLeDiff, Nat.reduceEqDiff, Nat.reduceMod, Nat.reduceDiv, Int.reduceAdd, Int.reduceSub, Int.reduceMul, Int.reduceLT, Int.reduceLE, Int.reduceEq, Int.reduceNeg, Int.reduceToNat, reduceIte, reduceCtorEq, Int.reduceBEq, Int.reduceBNe, ei, hb2, hb3, w1]
    intro b5 hb5
    simp only [push_cast, Nat.reduceAdd, Nat.reduceSub, Nat.reduceMul, Nat.reduceLT, Nat.reduceLeDiff, Nat.reduceEqDiff, Nat.reduceMod, Nat.reduceDiv, Int.reduceAdd, Int.reduceSub, Int.reduceMul, Int.reduceLT, Int.reduceLE, Int.reduceEq, Int.reduceNeg, Int.reduceToNat, reduceIte, reduceCtorEq, Int.reduceBEq, Int.reduceBNe, ei, hb2, hb3, hb5, w1]
    refine regO gI0_ok ?_
    have be : (ByteArray.empty.toList == ({ data := #[] } : ByteArray).toList) = true := beq_self_eq_true _
    simp only [push_cast, Nat.reduceAdd, Nat.reduceSub, Nat.reduceMul, Nat.reduceLT, Nat.reduceLeDiff, Nat.reduceEqDiff, Nat.reduceMod, Nat.reduceDiv, Int.reduceAdd, Int.reduceSub, Int.reduceMul, Int.reduceLT, Int.reduceLE, Int.reduceEq, Int.reduceNeg, Int.reduceToNat, reduceIte, reduceCtorEq, Int.reduceBEq, Int.reduceBNe, ei, hb2, hb3, hb5, w1, be]
    exact ⟨1, rfl, rfl⟩
  · intro D m hD hm
    simp only [push_cast, Nat.reduceAdd, Nat.reduceSub, Nat.reduceMul, Nat.reduceLT, Nat.reduceLeDiff, Nat.reduceEqDiff, Nat.reduceMod, Nat.reduceDiv, Int.reduceAdd, Int.reduceSub, Int.reduceMul, Int.reduceLT, Int.reduceLE, Int.reduceEq, Int.reduceNeg, Int.reduceToNat, reduceIte, reduceCtorEq, Int.reduceBEq, Int.reduceBNe] at hD
    simp only [push_cast, Nat.reduceAdd, Nat.reduceSub, Nat.reduceMul, Nat.reduceLT, Nat.reduceLeDiff, Nat.reduceEqDiff, Nat.reduceMod, Nat.reduceDiv, Int.reduceAdd, Int.reduceSub, Int.reduceMul, Int.reduceLT, Int.reduceLE, Int.reduceEq, Int.reduceNeg, Int.reduceToNat, reduceIte, reduceCtorEq, Int.reduceBEq, Int.reduceBNe, hb2, hb3, hD]
theorem head0_ok : CallsV Tryz.prog 103 [.int .i64 192, .int .i64 0] [] (Ret0 (.string ⟨#[192]⟩)) := by
  have w1 : IntKind.i64.wrap 192 = 192 := by decide
  have w2 : IntKind.u8.wrap 192 = 192 := by decide
  refine callsO gI0_ok Tryz.mix Tryz.pl103 Tryz.func103 rfl Tryz.ntmps103 Tryz.results103 rfl (by first | rfl | assumption) (Nat.le_of_ble_eq_true rfl) (by kernel_rfl) ?_
  have hb : bytesOf [.int .u8 192] = some [192] := bytesOf_byteV [192]
  simp only [push_cast, Nat.reduceAdd, Nat.reduceSub, Nat.reduceMul, Nat.reduceLT, Nat.reduceLeDiff, Nat.reduceEqDiff, Nat.reduceMod, Nat.reduceDiv, Int.reduceAdd, Int.reduceSub, Int.reduceMul, Int.reduceLT, Int.reduceLE, Int.reduceEq, Int.reduceNeg, Int.reduceToNat, reduceIte, reduceCtorEq, Int.reduceBEq, Int.reduceBNe, w1, w2, hb]
theorem string0_ok {M : Hp} {b : Nat} {p : Value} (h : cellsAt M b 0 2 = some [p, .slice none 0 0]) (hm : marksOf M = []) : CallsV Tryz.prog 123 [.pointer (some ⟨b, 0, none⟩)] M (Ret0 (.string .empty)) := by
  obtain ⟨kd, cs, he, hl, ht⟩ := cellsAt_open h
  have h1 : List.take 1 (List.drop 1 cs) = [.slice none 0 0] := by
    have := congrArg (fun q => List.take 1 (List.drop 1 q)) ht
    rw [List.drop_take, List.take_take] at this
    exact this
  have l1 : 2 ≤ cs.length := hl
  refine callsO gI0_ok Tryz.mix plStr Tryz.func123 rfl Tryz.ntmps123 Tryz.results123 rfl (by first | rfl | assumption) (Nat.le_of_ble_eq_true rfl) (by kernel_rfl) ?_
  simp only [push_cast, Nat.reduceAdd, Nat.reduceSub, Nat.reduceMul, Nat.reduceLT, Nat.reduceLeDiff, Nat.reduceEqDiff, Nat.reduceMod, Nat.reduceDiv, Int.reduceAdd, Int.reduceSub, Int.reduceMul, Int.reduceLT, Int.reduceLE, Int.reduceEq, Int.reduceNeg, Int.reduceToNat, reduceIte, reduceCtorEq, Int.reduceBEq, Int.reduceBNe, he, h1, l1]
theorem join0_ok (b : Nat) : CallsV Tryz.prog 101 [.func (.func 124) #[] #[.pointer (some ⟨b, 0, none⟩)], .func (.func 72) #[] #[]] [⟨b, 0, .ro, [.slice none 0 0]⟩] (Ret0 (.string .empty)) := by
  refine callsO gI0_ok Tryz.mix Tryz.pl101 Tryz.func101 rfl Tryz.ntmps101 Tryz.results101 rfl (by first | rfl | assumption) (Nat.le_of_ble_eq_true rfl) (by kernel_rfl) ?_
  simp only [push_cast, Nat.reduceAdd, Nat.reduceSub, Nat.reduceMul, Nat.reduceLT, Nat.reduceLeDiff, Nat.reduceEqDiff, Nat.reduceMod, Nat.reduceDiv, Int.reduceAdd, Int.reduceSub, Int.reduceMul, Int.reduceLT, Int.reduceLE, Int.reduceEq, Int.reduceNeg, Int.reduceToNat, reduceIte, reduceCtorEq, Int.reduceBEq, Int.reduceBNe]
  intro b3 hb3 b5 hb5
  try simp only [push_cast, Nat.reduceAdd, Nat.reduceSub, Nat.reduceMul, Nat.reduceLT, Nat.reduceLeDiff, Nat.reduceEqDiff, Nat.reduceMod, Nat.reduceDiv, Int.reduceAdd, Int.reduceSub, Int.reduceMul, Int.reduceLT, Int.reduceLE, Int.reduceEq, Int.reduceNeg, Int.reduceToNat, reduceIte, reduceCtorEq, Int.reduceBEq, Int.reduceBNe, hb3, hb5]
  refine rangeO gI0_ok (pl := Tryz.pl101) Tryz.mix (Hc := [⟨b, 0, .ro, [.slice none 0 0]⟩]) (Hm := []) (values0_ok (b := b) (k := .ro) rfl (by simp [findE])) rfl
    (X := Unit) (fun _ => [⟨b5, 0, .cel 152, [.pointer none, .slice none 0 0]⟩, ⟨b3, 0, .cel 107, [.func (.func 72) #[] #[]]⟩]) (fun _ _ => True) (fun _ _ => False) ()
    trivial ?_ rfl rfl (by simp) (fun s => rfl) (fun s u e he => .inl ?_) (by simp) (by kernel_rfl) (by kernel_rfl) (fun _ _ h => h.elim) (fun _ _ _ _ h => by simp at h) ?_ (fun _ _ _ _ h => h.elim)
  · simp only [push_cast, Nat.reduceAdd, Nat.reduceSub, Nat.reduceMul, Nat.reduceLT, Nat.reduceLeDiff, Nat.reduceEqDiff, Nat.reduceMod, Nat.reduceDiv, Int.reduceAdd, Int.reduceSub, Int.reduceMul, Int.reduceLT, Int.reduceLE, Int.reduceEq, Int.reduceNeg, Int.reduceToNat, reduceIte, reduceCtorEq, Int.reduceBEq, Int.reduceBNe, hb3, hb5]
  · simp at he; rcases he with rfl | rfl <;> trivial
  · intro D x hD _
    simp only [push_cast, Nat.reduceAdd, Nat.reduceSub, Nat.reduceMul, Nat.reduceLT, Nat.reduceLeDiff, Nat.reduceEqDiff, Nat.reduceMod, Nat.reduceDiv, Int.reduceAdd, Int.reduceSub, Int.reduceMul, Int.reduceLT, Int.reduceLE, Int.reduceEq, Int.reduceNeg, Int.reduceToNat, reduceIte, reduceCtorEq, Int.reduceBEq, Int.reduceBNe] at hD
    simp only [push_cast, Nat.reduceAdd, Nat.reduceSub, Nat.reduceMul, Nat.reduceLT, Nat.reduceLeDiff, Nat.reduceEqDiff, Nat.reduceMod, Nat.reduceDiv, Int.reduceAdd, Int.reduceSub, Int.reduceMul, Int.reduceLT, Int.reduceLE, Int.reduceEq, Int.reduceNeg, Int.reduceToNat, reduceIte, reduceCtorEq, Int.reduceBEq, Int.reduceBNe, hD, hb5]
    refine useP [_] (M := [⟨b5, 0, .cel 152, [.pointer none, .slice none 0 0]⟩, ⟨b3, 0, .cel 107, [.func (.func 72) #[] #[]]⟩]) (fun M0 hr he => string0_ok (p := .pointer none) (by rw [he]; simp [cellsAt, findE, subL]) hr.marks) (by simp only [push_cast, Nat.reduceAdd, Nat.reduceSub, Nat.reduceMul, Nat.reduceLT, Nat.reduceLeDiff, Nat.reduceEqDiff, Nat.reduceMod, Nat.reduceDiv, Int.reduceAdd, Int.reduceSub, Int.reduceMul, Int.reduceLT, Int.reduceLE, Int.reduceEq, Int.reduceNeg, Int.reduceToNat, reduceIte, reduceCtorEq, Int.reduceBEq, Int.reduceBNe, hD]) ?_
    simp only [push_cast, Nat.reduceAdd, Nat.reduceSub, Nat.reduceMul, Nat.reduceLT, Nat.reduceLeDiff, Nat.reduceEqDiff, Nat.reduceMod, Nat.reduceDiv, Int.reduceAdd, Int.reduceSub, Int.reduceMul, Int.reduceLT, Int.reduceLE, Int.reduceEq, Int.reduceNeg, Int.reduceToNat, reduceIte, reduceCtorEq, Int.reduceBEq, Int.reduceBNe]
theorem encode0_ok : CallsV Tryz.prog 72 [.agg itE.toArray] [] (Ret0 (.string ⟨#[192]⟩)) := by
  have ei : itE = [.bool true, .string .empty, .slice none 0 0] := rfl
  refine callsO gI0_ok Tryz.mix Tryz.pl72 Tryz.func72 rfl Tryz.ntmps72 Tryz.results72 rfl (by first | rfl | assumption) (Nat.le_of_ble_eq_true rfl) (by kernel_rfl) ?_
  simp only [push_cast, Nat.reduceAdd, Nat.reduceSub, Nat.reduceMul, Nat.reduceLT, Nat.reduceLeDiff, Nat.reduceEqDiff, Nat.reduceMod, Nat.reduceDiv, Int.reduceAdd, Int.reduceSub, Int.reduceMul, Int.reduceLT, Int.reduceLE, Int.reduceEq, Int.reduceNeg, Int.reduceToNat, reduceIte, reduceCtorEq, Int.reduceBEq, Int.reduceBNe]
  intro b1
  try simp only [push_cast, Nat.reduceAdd, Nat.reduceSub, Nat.reduceMul, Nat.reduceLT, Nat.reduceLeDiff, Nat.reduceEqDiff, Nat.reduceMod, Nat.reduceDiv, Int.reduceAdd, Int.reduceSub, Int.reduceMul, Int.reduceLT, Int.reduceLE, Int.reduceEq, Int.reduceNeg, Int.reduceToNat, reduceIte, reduceCtorEq, Int.reduceBEq, Int.reduceBNe, ei]
  refine (valuesI_ok).use trivial ?_
  rintro _ _ ⟨b, rfl, rfl⟩
  refine ⟨⟨trivial, trivial⟩, rfl, fun hfn => ?_⟩
  simp only [push_cast, Nat.reduceAdd, Nat.reduceSub, Nat.reduceMul, Nat.reduceLT, Nat.reduceLeDiff, Nat.reduceEqDiff, Nat.reduceMod, Nat.reduceDiv, Int.reduceAdd, Int.reduceSub, Int.reduceMul, Int.reduceLT, Int.reduceLE, Int.reduceEq, Int.reduceNeg, Int.reduceToNat, reduceIte, reduceCtorEq, Int.reduceBEq, Int.reduceBNe] at hfn
  try simp only [push_cast, Nat.reduceAdd, Nat.reduceSub, Nat.reduceMul, Nat.reduceLT, Nat.reduceLeDiff, Nat.reduceEqDiff, Nat.reduceMod, Nat.reduceDiv, Int.reduceAdd, Int.reduceSub, Int.reduceMul, Int.reduceLT, Int.reduceLE, Int.reduceEq, Int.reduceNeg, Int.reduceToNat, reduceIte, reduceCtorEq, Int.reduceBEq, Int.reduceBNe, hfn, ei]
  refine (join0_ok b).pure (by simp only [push_cast, Nat.reduceAdd, Nat.reduceSub, Nat.reduceMul, Nat.reduceLT, Nat.reduceLeDiff, Nat.reduceEqDiff, Nat.reduceMod, Nat.reduceDiv, Int.reduceAdd, Int.reduceSub, Int.reduceMul, Int.reduceLT, Int.reduceLE, Int.reduceEq, Int.reduceNeg, Int.reduceToNat, reduceIte, reduceCtorEq, Int.reduceBEq, Int.reduceBNe, hfn]) ?_
  simp only [push_cast, Nat.reduceAdd, Nat.reduceSub, Nat.reduceMul, Nat.reduceLT, Nat.reduceLeDiff, Nat.reduceEqDiff, Nat.reduceMod, Nat.reduceDiv, Int.reduceAdd, Int.reduceSub, Int.reduceMul, Int.reduceLT, Int.reduceLE, Int.reduceEq, Int.reduceNeg, Int.reduceToNat, reduceIte, reduceCtorEq, Int.reduceBEq, Int.reduceBNe, hfn, ei]
  have hc : catB ⟨#[192]⟩ .empty = some (.string ⟨#[192]⟩) := by
    unfold catB
    rw [if_neg (by decide)]
    rfl
  refine (head0_ok).pure trivial ?_
  simp only [push_cast, Nat.reduceAdd, Nat.reduceSub, Nat.reduceMul, Nat.reduceLT, Nat.reduceLeDiff, Nat.reduceEqDiff, Nat.reduceMod, Nat.reduceDiv, Int.reduceAdd, Int.reduceSub, Int.reduceMul, Int.reduceLT, Int.reduceLE, Int.reduceEq, Int.reduceNeg, Int.reduceToNat, reduceIte, reduceCtorEq, Int.reduceBEq, Int.reduceBNe, hfn, ei, hc]
theorem enc0_ok : CallsV Tryz.prog 52 [.agg itE.toArray] [] (Ret0 (.tuple #[.string ⟨#[192]⟩, .int .i64 0])) := by
  have il : itE.length = 3 := rfl
  have it3 : List.take 3 itE = itE := rfl
  have hs : (ByteArray.mk #[192]).size = 1 := rfl
  refine callsO gI0_ok Tryz.mix Tryz.pl52 Tryz.func52 rfl Tryz.ntmps52 Tryz.results52 rfl (by first | rfl | assumption) (Nat.le_of_ble_eq_true rfl) (by kernel_rfl) ?_
  simp only [push_cast, Nat.reduceAdd, Nat.reduceSub, Nat.reduceMul, Nat.reduceLT, Nat.reduceLeDiff, Nat.reduceEqDiff, Nat.reduceMod, Nat.reduceDiv, Int.reduceAdd, Int.reduceSub, Int.reduceMul, Int.reduceLT, Int.reduceLE, Int.reduceEq, Int.reduceNeg, Int.reduceToNat, reduceIte, reduceCtorEq, Int.reduceBEq, Int.reduceBNe]
  intro b1
  try simp only [push_cast, Nat.reduceAdd, Nat.reduceSub, Nat.reduceMul, Nat.reduceLT, Nat.reduceLeDiff, Nat.reduceEqDiff, Nat.reduceMod, Nat.reduceDiv, Int.reduceAdd, Int.reduceSub, Int.reduceMul, Int.reduceLT, Int.reduceLE, Int.reduceEq, Int.reduceNeg, Int.reduceToNat, reduceIte, reduceCtorEq, Int.reduceBEq, Int.reduceBNe, il, it3]
  refine (rright0_ok).pure trivial ?_
  simp only [push_cast, Nat.reduceAdd, Nat.reduceSub, Nat.reduceMul, Nat.reduceLT, Nat.reduceLeDiff, Nat.reduceEqDiff, Nat.reduceMod, Nat.reduceDiv, Int.reduceAdd, Int.reduceSub, Int.reduceMul, Int.reduceLT, Int.reduceLE, Int.reduceEq, Int.reduceNeg, Int.reduceToNat, reduceIte, reduceCtorEq, Int.reduceBEq, Int.reduceBNe, il, it3]
  refine (encode0_ok).pure trivial ?_
  simp only [push_cast, Nat.reduceAdd, Nat.reduceSub, Nat.reduceMul, Nat.reduceLT, Nat.reduceLeDiff, Nat.reduceEqDiff, Nat.reduceMod, Nat.reduceDiv, Int.reduceAdd, Int.reduceSub, Int.reduceMul, Int.reduceLT, Int.reduceLE, Int.reduceEq, Int.reduceNeg, Int.reduceToNat, reduceIte, reduceCtorEq, Int.reduceBEq, Int.reduceBNe, hs]
theorem sum_R {M : Hp} (hk : KonR M) (l : List UInt8) (hl : l.length ≤ 1048576) : ∀ M0, roM M0 → cellsAt M0 = cellsAt M → CallsV Tryz.prog 56 [.string ⟨l.toArray⟩] M0 (Ret0 (.tuple #[.string ⟨(keccK l).toArray⟩, .int .i64 0])) :=
  fun _ hr he => sum_ok (hk.congr he.symm) hr.marks l hl
theorem digest0_ok {M : Hp} (hk : KonR M) (hm : marksOf M = []) : CallsV Tryz.prog 27 [.slice none 0 0] M (Ret0 (.tuple #[.string ⟨(keccK [192]).toArray⟩, .int .i64 0])) := by
  have hr0 : rightS [] = true := rfl
  refine callsO gI0_ok Tryz.mix Tryz.pl27 Tryz.func27 rfl Tryz.ntmps27 Tryz.results27 rfl (by first | rfl | assumption) (Nat.le_of_ble_eq_true rfl) (by kernel_rfl) ?_
  simp only [push_cast, Nat.reduceAdd, Nat.reduceSub, Nat.reduceMul, Nat.reduceLT, Nat.reduceLeDiff, Nat.reduceEqDiff, Nat.reduceMod, Nat.reduceDiv, Int.reduceAdd, Int.reduceSub, Int.reduceMul, Int.reduceLT, Int.reduceLE, Int.reduceEq, Int.reduceNeg, Int.reduceToNat, reduceIte, reduceCtorEq, Int.reduceBEq, Int.reduceBNe]
  refine useP [] (v := .bool true) (fun M0 hr he => by have := sright_ok (s := []) (v := .slice none 0 0) (M := M0) (StR.nil _ 0) hr.marks (by decide); rw [hr0] at this; exact this) trivial ?_
  simp only [push_cast, Nat.reduceAdd, Nat.reduceSub, Nat.reduceMul, Nat.reduceLT, Nat.reduceLeDiff, Nat.reduceEqDiff, Nat.reduceMod, Nat.reduceDiv, Int.reduceAdd, Int.reduceSub, Int.reduceMul, Int.reduceLT, Int.reduceLE, Int.reduceEq, Int.reduceNeg, Int.reduceToNat, reduceIte, reduceCtorEq, Int.reduceBEq, Int.reduceBNe]
  refine (items_ok).use trivial ?_
  rintro _ _ ⟨b, c, rfl, rfl, hne⟩
  refine ⟨⟨trivial, trivial, trivial⟩, rfl, fun hfn => ?_⟩
  have hfn0 := hfn
  simp only [push_cast, Nat.reduceAdd, Nat.reduceSub, Nat.reduceMul, Nat.reduceLT, Nat.reduceLeDiff, Nat.reduceEqDiff, Nat.reduceMod, Nat.reduceDiv, Int.reduceAdd, Int.reduceSub, Int.reduceMul, Int.reduceLT, Int.reduceLE, Int.reduceEq, Int.reduceNeg, Int.reduceToNat, reduceIte, reduceCtorEq, Int.reduceBEq, Int.reduceBNe] at hfn
  try simp only [push_cast, Nat.reduceAdd, Nat.reduceSub, Nat.reduceMul, Nat.reduceLT, Nat.reduceLeDiff, Nat.reduceEqDiff, Nat.reduceMod, Nat.reduceDiv, Int.reduceAdd, Int.reduceSub, Int.reduceMul, Int.reduceLT, Int.reduceLE, Int.reduceEq, Int.reduceNeg, Int.reduceToNat, reduceIte, reduceCtorEq, Int.reduceBEq, Int.reduceBNe, hfn]
  refine (collect0_ok (items0_ok (b := b) (c := c) (k := .ro) (Hc := [⟨b, 0, .ro, [.slice none 0 0]⟩]) rfl (by simp [findE])) rfl (by simp only [push_cast, Nat.reduceAdd, Nat.reduceSub, Nat.reduceMul, Nat.reduceLT, Nat.reduceLeDiff, Nat.reduceEqDiff, Nat.reduceMod, Nat.reduceDiv, Int.reduceAdd, Int.reduceSub, Int.reduceMul, Int.reduceLT, Int.reduceLE, Int.reduceEq, Int.reduceNeg, Int.reduceToNat, reduceIte, reduceCtorEq, Int.reduceBEq, Int.reduceBNe])).pure (by simp only [push_cast, Nat.reduceAdd, Nat.reduceSub, Nat.reduceMul, Nat.reduceLT, Nat.reduceLeDiff, Nat.reduceEqDiff, Nat.reduceMod, Nat.reduceDiv, Int.reduceAdd, Int.reduceSub, Int.reduceMul, Int.reduceLT, Int.reduceLE, Int.reduceEq, Int.reduceNeg, Int.reduceToNat, reduceIte, reduceCtorEq, Int.reduceBEq, Int.reduceBNe, hfn, hne]) ?_
  simp only [push_cast, Nat.reduceAdd, Nat.reduceSub, Nat.reduceMul, Nat.reduceLT, Nat.reduceLeDiff, Nat.reduceEqDiff, Nat.reduceMod, Nat.reduceDiv, Int.reduceAdd, Int.reduceSub, Int.reduceMul, Int.reduceLT, Int.reduceLE, Int.reduceEq, Int.reduceNeg, Int.reduceToNat, reduceIte, reduceCtorEq, Int.reduceBEq, Int.reduceBNe, hfn]
  refine (list0_ok).pure trivial ?_
  simp only [push_cast, Nat.reduceAdd, Nat.reduceSub, Nat.reduceMul, Nat.reduceLT, Nat.reduceLeDiff, Nat.reduceEqDiff, Nat.reduceMod, Nat.reduceDiv, Int.reduceAdd, Int.reduceSub, Int.reduceMul, Int.reduceLT, Int.reduceLE, Int.reduceEq, Int.reduceNeg, Int.reduceToNat, reduceIte, reduceCtorEq, Int.reduceBEq, Int.reduceBNe, hfn]
  refine (enc0_ok).pure trivial ?_
  simp only [push_cast, Nat.reduceAdd, Nat.reduceSub, Nat.reduceMul, Nat.reduceLT, Nat.reduceLeDiff, Nat.reduceEqDiff, Nat.reduceMod, Nat.reduceDiv, Int.reduceAdd, Int.reduceSub, Int.reduceMul, Int.reduceLT, Int.reduceLE, Int.reduceEq, Int.reduceNeg, Int.reduceToNat, reduceIte, reduceCtorEq, Int.reduceBEq, Int.reduceBNe, hfn]
  refine useP [_, _] (sum_R hk [192] (by decide)) hfn0 ?_
  simp only [push_cast, Nat.reduceAdd, Nat.reduceSub, Nat.reduceMul, Nat.reduceLT, Nat.reduceLeDiff, Nat.reduceEqDiff, Nat.reduceMod, Nat.reduceDiv, Int.reduceAdd, Int.reduceSub, Int.reduceMul, Int.reduceLT, Int.reduceLE, Int.reduceEq, Int.reduceNeg, Int.reduceToNat, reduceIte, reduceCtorEq, Int.reduceBEq, Int.reduceBNe, hfn]
end Go.Proofs.YtpcjmmdgopihcaaGreatDoor
set_option linter.unusedSimpArgs false
set_option linter.unusedVariables false
namespace Go.Proofs.YtpcjmmdgopihcaaGreatDoor
open Go Go.Ev Go.Proofs
set_option maxRecDepth 100000
set_option maxHeartbeats 4000000
def plEqS : Plans := fun i => if i = 6 then [] else Tryz.pl37 i
attribute [push_cast] plEqS
theorem eqSl_ok {M : Hp} {s t : List Sl} {v u : Value} (hv : LiR Sl.cells 8 M s v) (hu : LiR Sl.cells 8 M t u) (hm : marksOf M = []) (hn : s.length ≤ 1000000000000) : CallsV Tryz.prog 37 [v, u] M (Ret0 (.bool (decide (s = t)))) := by
  obtain ⟨p, k, rfl, hla⟩ := LiR.openC Sl.len (by decide) hv
  obtain ⟨q, n, rfl, hra⟩ := LiR.openC Sl.len (by decide) hu
  refine callsO gA1_ok Tryz.mix plEqS Tryz.func37 rfl Tryz.ntmps37 Tryz.results37 rfl (by first | rfl | assumption) (Nat.le_of_ble_eq_true rfl) (by kernel_rfl) ?_
  by_cases hl : s.length = t.length
  case neg =>
    have e : decide (s = t) = false := decide_eq_false fun h => hl (by rw [h])
    have e1 : (((s.length : Nat) : Int) != ((t.length : Nat) : Int)) = true := by rw [bne_iff_ne]; omega
    simp only [push_cast, seval, reduceCtorEq, e, e1]
  have e1 : (((s.length : Nat) : Int) != ((t.length : Nat) : Int)) = false := by rw [hl]; exact bne_self_eq_false _
  simp only [push_cast, seval, reduceCtorEq, e1]
  refine loopO gA1_ok (pl := plEqS) Tryz.mix (X := Nat)
    (fun i => ([(0, .slice p s.length k), (1, .slice q t.length n), (12, .int .i64 s.length), (13, .int .i64 i)], M))
    (fun i => i ≤ s.length ∧ s.take i = t.take i) (fun i => s.length - i) 0 ?_ ?_ (by kernel_rfl) ?_
  · exact ⟨Nat.zero_le _, rfl⟩
  · simp only [push_cast, seval, reduceCtorEq]
  · rintro i ⟨hi, ht⟩
    dsimp only at hi ht ⊢
    rcases Nat.lt_or_ge i s.length with hlt | hge
    · obtain ⟨x, hx⟩ : ∃ x, s[i]? = some x := ⟨s[i], List.getElem?_eq_getElem hlt⟩
      obtain ⟨y, hy⟩ : ∃ y, t[i]? = some y := ⟨t[i]'(by omega), List.getElem?_eq_getElem (by omega)⟩
      rcases hla with hl0 | ⟨b, f, d, kd, cs, rfl, he, hat⟩
      · rw [hl0] at hx; simp at hx
      rcases hra with hl0 | ⟨b', f', d', kd', cs', rfl, he', hat'⟩
      · rw [hl0] at hy; simp at hy
      obtain ⟨a1, a2⟩ := hat i x hx
      obtain ⟨b1, b2⟩ := hat' i y hy
      have i1 : (i : Int) < (s.length : Int) := by omega
      have i2 : (i : Int) < (t.length : Int) := by omega
      have i3 : i < t.length := by omega
      have vs : ∀ z : Sl, Value.agg z.cells.toArray = z.v := fun _ => rfl
      simp only [push_cast, seval, reduceCtorEq, i1, hlt]
      refine drawO gA1_ok Tryz.mix (Tryz.pl37 6) (by kernel_rfl) ?_
      by_cases hxy : x = y
      · simp only [push_cast, seval, reduceCtorEq, i1, i2, i3, hlt, he, he', a1, a2, b1, b2, vs, Sl.neq x y (by kernel_rfl) (by kernel_rfl) (by kernel_rfl), decide_eq_true hxy, wrap_i64' (show -9223372036854775808 ≤ (i : Int) + 1 ∧ (i : Int) + 1 ≤ 9223372036854775807 by omega)]
        refine ⟨i + 1, ⟨hlt, ?_⟩, by omega, rfl⟩
        rw [List.take_add_one, List.take_add_one, hx, hy, ht, hxy]
      · have e : decide (s = t) = false := decide_eq_false fun h => hxy (by rw [h, hy] at hx; exact (Option.some.inj hx).symm)
        simp only [push_cast, seval, reduceCtorEq, i1, i2, i3, hlt, he, he', a1, a2, b1, b2, vs, Sl.neq x y (by kernel_rfl) (by kernel_rfl) (by kernel_rfl), decide_eq_false hxy, e]
    · obtain rfl : i = s.length := by omega
      have e : decide (s = t) = true := decide_eq_true (by
        rw [List.take_length, hl, List.take_length] at ht; exact ht)
      simp only [push_cast, seval, reduceCtorEq, Nat.lt_irrefl, Int.lt_irrefl, e]
theorem eqSl_R {M : Hp} {s t : List Sl} {v u : Value} (hv : LiR Sl.cells 8 M s v) (hu : LiR Sl.cells 8 M t u) (hn : s.length ≤ 1000000000000) : ∀ M0, roM M0 → cellsAt M0 = cellsAt M → CallsV Tryz.prog 37 [v, u] M0 (Ret0 (.bool (decide (s = t)))) :=
  fun _ hr he => eqSl_ok (hv.congr he.symm) (hu.congr he.symm) hr.marks hn
theorem ssame1_ok {M : Hp} {x y : Ac} {sx sy : Value} (hx : LiR Sl.cells 8 M x.slots sx) (hy : LiR Sl.cells 8 M y.slots sy) (hm : marksOf M = []) (h1 : x.slots.length ≤ 1000000000000) : CallsV Tryz.prog 36 [.agg (x.cells sx).toArray, .agg (y.cells sy).toArray] M (Ret0 (.bool (decide (x = y)))) := by
  obtain ⟨p, k, rfl⟩ := hx.slice
  obtain ⟨q, n, rfl⟩ := hy.slice
  have va : ∀ w : W, Value.agg w.cells.toArray = w.v := fun _ => rfl
  refine callsO gA1_ok Tryz.mix (fun i => if i = 1 then [(0, 9)] else Tryz.pl36 i) Tryz.func36 rfl Tryz.ntmps36 Tryz.results36 rfl (by first | rfl | assumption) (Nat.le_of_ble_eq_true rfl) (by kernel_rfl) ?_
  simp only [push_cast, seval, reduceCtorEq]
  intro b2 hb2 b3 hb3
  refine regO gA1_ok ?_
  by_cases c1 : x.at_ = y.at_
  case neg =>
    have e : decide (x = y) = false := decide_eq_false fun h => c1 (by rw [h])
    simp only [push_cast, seval, reduceCtorEq, hb3, decide_eq_false c1, e]
  by_cases c2 : x.bal = y.bal
  case neg =>
    have e : decide (x = y) = false := decide_eq_false fun h => c2 (by rw [h])
    simp only [push_cast, seval, reduceCtorEq, hb3, va, decide_eq_true c1, decide_eq_false c2, e]
  by_cases c3 : x.nonce = y.nonce
  case neg =>
    have e : decide (x = y) = false := decide_eq_false fun h => c3 (by rw [h])
    have e3 : (x.nonce == y.nonce) = false := beq_eq_false_iff_ne.2 c3
    simp only [push_cast, seval, reduceCtorEq, hb3, va, decide_eq_true c1, decide_eq_true c2, e3, e]
  have e3 : (x.nonce == y.nonce) = true := by rw [c3]; exact beq_self_eq_true _
  by_cases c4 : x.code = y.code
  case neg =>
    have e : decide (x = y) = false := decide_eq_false fun h => c4 (by rw [h])
    have e4 : (x.code.toList == y.code.toList) = false := by rw [code_eq, decide_eq_false c4]
    simp only [push_cast, seval, reduceCtorEq, hb3, va, decide_eq_true c1, decide_eq_true c2, e3, e4, e]
  have e4 : (x.code.toList == y.code.toList) = true := by rw [code_eq, decide_eq_true c4]
  have e : decide (x = y) = decide (x.slots = y.slots) := by
    rw [decide_eq_decide]
    exact ⟨fun h => by rw [h], fun h => Ac.ext c1 c2 c3 c4 h⟩
  rw [e]
  simp only [push_cast, seval, reduceCtorEq, hb3, va, decide_eq_true c1, decide_eq_true c2, e3, e4]
  refine useP [_, _] (eqSl_R hx hy h1) ⟨hb3.2.2, hb2, trivial⟩ ?_
  simp only [push_cast, seval, reduceCtorEq]
def plEqF : Plans := fun i => Tryz.pl35 i
attribute [push_cast] plEqF
theorem eqF_ok {M : Hp} {s t : List Ac} {v u : Value} (hv : StR s v M) (hu : StR t u M) (hm : marksOf M = []) (hn : s.length ≤ 1000000000000) (hn2 : t.length ≤ 1000000000000) (h1 : ∀ x ∈ s, x.slots.length ≤ 1000000000000) : CallsV Tryz.prog 35 [v, u, .func (.func 36) #[] #[]] M (Ret0 (.bool (decide (s = t)))) := by
  obtain ⟨L, rfl, hL, hLs⟩ := hv
  obtain ⟨R, rfl, hR, hRs⟩ := hu
  have hlen : (L.map (·.1)).length = L.length := List.length_map _
  have hlen2 : (R.map (·.1)).length = R.length := List.length_map _
  rw [hlen] at hn
  rw [hlen2] at hn2
  obtain ⟨p, k, rfl, hla⟩ := hL.openA
  obtain ⟨q, n, rfl, hra⟩ := hR.openA
  refine callsO gA1_ok Tryz.mix plEqF Tryz.func35 rfl Tryz.ntmps35 Tryz.results35 rfl (by first | rfl | assumption) (Nat.le_of_ble_eq_true rfl) (by kernel_rfl) ?_
  by_cases hl : L.length = R.length
  case neg =>
    have e : decide (L.map (·.1) = R.map (·.1)) = false := decide_eq_false fun h => hl (by rw [← hlen, h, hlen2])
    have e1 : (((L.length : Nat) : Int) != ((R.length : Nat) : Int)) = true := by rw [bne_iff_ne]; omega
    simp only [push_cast, seval, reduceCtorEq, e, e1]
  have e1 : (((L.length : Nat) : Int) != ((R.length : Nat) : Int)) = false := by rw [hl]; exact bne_self_eq_false _
  simp only [push_cast, seval, reduceCtorEq, e1]
  refine loopO gA1_ok (pl := plEqF) Tryz.mix (X := Nat)
    (fun i => ([(0, .slice p L.length k), (1, .slice q R.length n), (15, .slice p L.length k), (16, .int .i64 L.length), (2, .func (.func 36) #[] #[]), (17, .int .i64 i)], M))
    (fun i => i ≤ L.length ∧ (L.take i).map (·.1) = (R.take i).map (·.1)) (fun i => L.length - i) 0 ?_ ?_ (by kernel_rfl) ?_
  · exact ⟨Nat.zero_le _, rfl⟩
  · simp only [push_cast, seval, reduceCtorEq]
  · rintro i ⟨hi, ht⟩
    dsimp only at hi ht ⊢
    rcases Nat.lt_or_ge i L.length with hlt | hge
    · obtain ⟨x, hx⟩ : ∃ x, L[i]? = some x := ⟨L[i], List.getElem?_eq_getElem hlt⟩
      obtain ⟨y, hy⟩ : ∃ y, R[i]? = some y := ⟨R[i]'(by omega), List.getElem?_eq_getElem (by omega)⟩
      rcases hla with rfl | ⟨b, f, d, kd, cs, rfl, he, hat⟩
      · simp at hx
      rcases hra with rfl | ⟨b', f', d', kd', cs', rfl, he', hat'⟩
      · simp at hy
      obtain ⟨-, a1, a2⟩ := hat i x hx
      have a0 := Ac.all1 x.1 x.2 (hLs x (List.mem_of_getElem? hx)).one
      obtain ⟨b0, b1, b2⟩ := hat' i y hy
      have b0 := Ac.all1 y.1 y.2 (hRs y (List.mem_of_getElem? hy)).one
      have i1 : (i : Int) < (L.length : Int) := by omega
      have i2 : (i : Int) < (R.length : Int) := by omega
      have i3 : i < R.length := by omega
      simp only [push_cast, seval, reduceCtorEq, i1, i2, i3, hlt, he, a1, a2, show (acC x).all oneC = true from a0]
      intro b8 hb8
      have d1 := (fresh_findS hb8 he').2
      try simp only [push_cast, seval, reduceCtorEq, i1, i2, i3, hlt, he, he', a1, a2, b1, b2, d1, hb8, show (acC x).all oneC = true from a0, show (acC y).all oneC = true from b0]
      intro b9 hb9
      try simp only [push_cast, seval, reduceCtorEq, hb8, hb9, show (acC x).all oneC = true from a0, show (acC y).all oneC = true from b0]
      have hxm := List.mem_of_getElem? hx
      have hym := List.mem_of_getElem? hy
      refine useP [_, _] (fun M1 hr1 he1 => ssame1_ok ((hLs x hxm).congr he1.symm) ((hRs y hym).congr he1.symm) hr1.marks (h1 _ (List.mem_map_of_mem hxm))) ⟨hb9.2.2, hb8, trivial⟩ ?_
      by_cases hxy : x.1 = y.1
      · simp only [push_cast, seval, reduceCtorEq, decide_eq_true hxy, wrap_i64' (show -9223372036854775808 ≤ (i : Int) + 1 ∧ (i : Int) + 1 ≤ 9223372036854775807 by omega)]
        refine ⟨i + 1, ⟨hlt, ?_⟩, by omega, rfl, ?_⟩
        · rw [List.take_add_one, List.take_add_one, hx, hy, List.map_append, List.map_append, ht]
          simp [hxy]
        · rw [subH_skip (e := ⟨b9, 0, .cel 31, acC y⟩) (L := ⟨b8, 0, .cel 31, acC x⟩ :: M) (H := M) hb9.2.2, subH_skip (e := ⟨b8, 0, .cel 31, acC x⟩) (L := M) (H := M) hb8]; exact subH_self _
      · have e : decide (L.map (·.1) = R.map (·.1)) = false := decide_eq_false fun h => hxy (by
          have h1 : (L.map (·.1))[i]? = some x.1 := by rw [List.getElem?_map, hx]; rfl
          have h2 : (R.map (·.1))[i]? = some y.1 := by rw [List.getElem?_map, hy]; rfl
          rw [h, h2] at h1
          exact (Option.some.inj h1).symm)
        simp only [push_cast, seval, reduceCtorEq, decide_eq_false hxy, e]
    · obtain rfl : i = L.length := by omega
      have e : decide (L.map (·.1) = R.map (·.1)) = true := decide_eq_true (by
        rw [List.take_length, hl, List.take_length] at ht; exact ht)
      simp only [push_cast, seval, reduceCtorEq, Nat.lt_irrefl, Int.lt_irrefl, e]
theorem ssame_R {M : Hp} {s t : List Ac} {v u : Value} (hv : StR s v M) (hu : StR t u M) (hn : s.length ≤ 1000000000000) (hn2 : t.length ≤ 1000000000000) (h1 : ∀ x ∈ s, x.slots.length ≤ 1000000000000) : ∀ M0, roM M0 → cellsAt M0 = cellsAt M → CallsV Tryz.prog 14 [v, u] M0 (Ret0 (.bool (decide (s = t)))) := by
  intro M0 hr he
  have hm := hr.marks
  replace hv := StR.rd _ _ _ _ he.symm hv
  replace hu := StR.rd _ _ _ _ he.symm hu
  refine callsO gA1_ok Tryz.mix Tryz.pl14 Tryz.func14 rfl Tryz.ntmps14 Tryz.results14 rfl (by first | rfl | assumption) (Nat.le_of_ble_eq_true rfl) (by kernel_rfl) ?_
  simp only [push_cast, seval, reduceCtorEq]
  refine useP [] (fun M1 hr1 he1 => eqF_ok (StR.rd _ _ _ _ he1.symm hv) (StR.rd _ _ _ _ he1.symm hu) hr1.marks hn hn2 h1) trivial ?_
  simp only [push_cast, seval, reduceCtorEq]
end Go.Proofs.YtpcjmmdgopihcaaGreatDoor
