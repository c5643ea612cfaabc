/- Texts of this claim, merged by program: Wf Wg Wh Si Oa Nb Ta Tb Tc Td. -/
import Derived.Test.YtolmipnaheifcaaGreatDoorZfAg
import Derived.Test.YtolmipnaheifcaaGreatDoorZfAf
import Derived.Test.YtolmipnaheifcaaGreatDoorZfAd
set_option linter.unusedSimpArgs false
set_option linter.unusedVariables false
namespace Go.Proofs.YtolmipnaheifcaaGreatDoor
open Go Go.Ev Go.Proofs
set_option maxRecDepth 100000
set_option maxHeartbeats 4000000
theorem digits_ok (w : W) : CallsV Tryz.prog 55 [w.v] [] (OutC 3 1 (zs (digs w.num 32)) 32) := by
  refine callsO (noG_ok _) Tryz.mix Tryz.pl55 Tryz.func55 rfl Tryz.ntmps55 Tryz.results55 rfl (by first | rfl | assumption) (Nat.le_of_ble_eq_true rfl) (by kernel_rfl) ?_
  simp only [push_cast, seval, reduceCtorEq]
  intro b1
  refine loopO (noG_ok _) (pl := Tryz.pl55) Tryz.mix (X := Nat × Value × Hp)
    (fun s => ([(1, .pointer (some ⟨b1, 0, none⟩)), (3, s.2.1), (4, .int .i64 s.1)], s.2.2 ++ [⟨b1, 0, .cel 25, w.cells⟩]))
    (fun s => s.1 ≤ 4 ∧ OutC 3 1 (zs (digs w.num (8 * s.1))) (8 * s.1) s.2.1 s.2.2 ∧ freshN s.2.2 [⟨b1, 0, .cel 25, w.cells⟩]) (fun s => 4 - s.1) (0, .slice none 0 0, []) ?_ ?_ (by kernel_rfl) ?_
  · exact ⟨by decide, .nil _ _, trivial⟩
  · simp only [push_cast, seval, reduceCtorEq]
  · rintro ⟨i, vo, No⟩ ⟨hi, ho, hf⟩
    dsimp only at hi ho hf ⊢
    have fb : findE (No ++ [⟨b1, 0, .cel 25, w.cells⟩]) b1 = some ⟨b1, 0, .cel 25, w.cells⟩ := by
      rw [findE_freshN hf (b := b1) (e := ⟨b1, 0, .cel 25, w.cells⟩) (by simp only [push_cast, seval, reduceCtorEq])]; simp only [push_cast, seval, reduceCtorEq]
    obtain rfl | rfl | rfl | rfl | rfl : i = 0 ∨ i = 1 ∨ i = 2 ∨ i = 3 ∨ i = 4 := by omega
    · simp only [push_cast, seval, reduceCtorEq, fb]
      refine loopO (noG_ok _) (pl := Tryz.pl55) Tryz.mix (X := Nat × Nat × Value × Hp)
        (fun s => ([(1, .pointer (some ⟨b1, 0, none⟩)), (3, s.2.2.1), (4, .int .i64 0), (5, .int .u64 s.2.1), (6, .int .i64 s.1)], s.2.2.2 ++ [⟨b1, 0, .cel 25, w.cells⟩]))
        (fun s => s.1 ≤ 8 ∧ s.2.1 = w.a / 256 ^ s.1 ∧ OutC 3 1 (zs (digs w.num (s.1))) (s.1) s.2.2.1 s.2.2.2 ∧ freshN s.2.2.2 [⟨b1, 0, .cel 25, w.cells⟩]) (fun s => 8 - s.1) (0, w.a, vo, No) ?_ ?_ (by kernel_rfl) ?_
      · exact ⟨by dsimp only; omega, by simp, ho, hf⟩
      · simp only [push_cast, seval, reduceCtorEq]
        exact subH_self _
      · rintro ⟨k, x, vo, No⟩ ⟨hk, hx, ho, hf⟩
        dsimp only at hk hx ho hf ⊢
        rcases Nat.lt_or_ge k 8 with hlt | hge
        · have k8 : (k : Int) < 8 := by omega
          obtain ⟨d, hd0⟩ : ∃ d, d = digN w.num (8 * 0 + k) := ⟨_, rfl⟩
          have hd : d = x % 256 := by rw [hd0, dig_part w (by decide) hlt, hx]; rfl
          have e1 : (x : Int).tmod 256 = (d : Int) := by rw [hd]; rfl
          have hdl : d < 256 := by rw [hd]; omega
          obtain ⟨x2, hx2⟩ : ∃ x2 : Nat, x2 = x / 256 := ⟨_, rfl⟩
          have e2 : (x : Int).tdiv 256 = (x2 : Int) := by rw [hx2]; rfl
          have hxl : x2 < 18446744073709551616 := by
            have := w.ha
            have h3 : x ≤ w.a := by rw [hx]; exact Nat.div_le_self _ _
            omega
          simp only [push_cast, seval, reduceCtorEq, k8, e1, wrap_i64' (show -9223372036854775808 ≤ (d : Int) ∧ (d : Int) ≤ 9223372036854775807 by omega)]
          intro b10 hb10
          refine append_out1 (e := 3) (sz := 1) (by_ := 8) (n := k) (m := 1) (ys := [.int .i64 (d : Int)]) ho hb10 (by simp only [push_cast, seval, reduceCtorEq]) (by simp only [push_cast, seval, reduceCtorEq]) rfl rfl (by unfold two47; omega) fun v' N' ho' hf' => ?_
          simp only [push_cast, seval, reduceCtorEq, e2, wrap_u64' (n := (x2 : Int)) (by omega), wrap_i64' (show -9223372036854775808 ≤ (k : Int) + 1 ∧ (k : Int) + 1 ≤ 9223372036854775807 by omega)]
          refine ⟨(k + 1, x2, v', N'), ⟨by dsimp only; omega, ?_, ?_, freshN_cons hf'⟩, by dsimp only; omega, ⟨rfl, rfl, rfl⟩, ?_, ?_⟩
          · dsimp only; rw [hx2, hx, Nat.div_div_eq_div_mul, Nat.pow_succ]
          · dsimp only
            have hz : zs (digs w.num ((k + 1))) = zs (digs w.num (k)) ++ [.int .i64 (d : Int)] := by rw [digs_succ, zs_app, hd0, Nat.mul_zero, Nat.zero_add]; rfl
            rw [hz]
            exact ho'
          · exact subH_pre (subH_cons (fresh_app hb10)) _
          · simp only [marks_append, marksOf, ho.wr.2, ho'.wr.2]
        · obtain rfl : k = 8 := by omega
          simp only [push_cast, seval, reduceCtorEq, wrap_i64' (show -9223372036854775808 ≤ ((0 : Nat) : Int) + 1 ∧ ((0 : Nat) : Int) + 1 ≤ 9223372036854775807 by omega)]
          exact ⟨(1, vo, No), ⟨by dsimp only; omega, ho, hf⟩, by dsimp only; omega, ⟨rfl, rfl⟩, subH_self _, rfl⟩
    · simp only [push_cast, seval, reduceCtorEq, fb]
      refine loopO (noG_ok _) (pl := Tryz.pl55) Tryz.mix (X := Nat × Nat × Value × Hp)
        (fun s => ([(1, .pointer (some ⟨b1, 0, none⟩)), (3, s.2.2.1), (4, .int .i64 1), (5, .int .u64 s.2.1), (6, .int .i64 s.1)], s.2.2.2 ++ [⟨b1, 0, .cel 25, w.cells⟩]))
        (fun s => s.1 ≤ 8 ∧ s.2.1 = w.b / 256 ^ s.1 ∧ OutC 3 1 (zs (digs w.num (8 + s.1))) (8 + s.1) s.2.2.1 s.2.2.2 ∧ freshN s.2.2.2 [⟨b1, 0, .cel 25, w.cells⟩]) (fun s => 8 - s.1) (0, w.b, vo, No) ?_ ?_ (by kernel_rfl) ?_
      · exact ⟨by dsimp only; omega, by simp, ho, hf⟩
      · simp only [push_cast, seval, reduceCtorEq]
        exact subH_self _
      · rintro ⟨k, x, vo, No⟩ ⟨hk, hx, ho, hf⟩
        dsimp only at hk hx ho hf ⊢
        rcases Nat.lt_or_ge k 8 with hlt | hge
        · have k8 : (k : Int) < 8 := by omega
          obtain ⟨d, hd0⟩ : ∃ d, d = digN w.num (8 * 1 + k) := ⟨_, rfl⟩
          have hd : d = x % 256 := by rw [hd0, dig_part w (by decide) hlt, hx]; rfl
          have e1 : (x : Int).tmod 256 = (d : Int) := by rw [hd]; rfl
          have hdl : d < 256 := by rw [hd]; omega
          obtain ⟨x2, hx2⟩ : ∃ x2 : Nat, x2 = x / 256 := ⟨_, rfl⟩
          have e2 : (x : Int).tdiv 256 = (x2 : Int) := by rw [hx2]; rfl
          have hxl : x2 < 18446744073709551616 := by
            have := w.hb
            have h3 : x ≤ w.b := by rw [hx]; exact Nat.div_le_self _ _
            omega
          simp only [push_cast, seval, reduceCtorEq, k8, e1, wrap_i64' (show -9223372036854775808 ≤ (d : Int) ∧ (d : Int) ≤ 9223372036854775807 by omega)]
          intro b10 hb10
          refine append_out1 (e := 3) (sz := 1) (by_ := 8) (n := 8 + k) (m := 1) (ys := [.int .i64 (d : Int)]) ho hb10 (by simp only [push_cast, seval, reduceCtorEq]) (by simp only [push_cast, seval, reduceCtorEq]) rfl rfl (by unfold two47; omega) fun v' N' ho' hf' => ?_
          simp only [push_cast, seval, reduceCtorEq, e2, wrap_u64' (n := (x2 : Int)) (by omega), wrap_i64' (show -9223372036854775808 ≤ (k : Int) + 1 ∧ (k : Int) + 1 ≤ 9223372036854775807 by omega)]
          refine ⟨(k + 1, x2, v', N'), ⟨by dsimp only; omega, ?_, ?_, freshN_cons hf'⟩, by dsimp only; omega, ⟨rfl, rfl, rfl⟩, ?_, ?_⟩
          · dsimp only; rw [hx2, hx, Nat.div_div_eq_div_mul, Nat.pow_succ]
          · dsimp only
            have hz : zs (digs w.num (8 + (k + 1))) = zs (digs w.num (8 + k)) ++ [.int .i64 (d : Int)] := by rw [← Nat.add_assoc, digs_succ, zs_app, hd0]; rfl
            rw [hz]
            exact ho'
          · exact subH_pre (subH_cons (fresh_app hb10)) _
          · simp only [marks_append, marksOf, ho.wr.2, ho'.wr.2]
        · obtain rfl : k = 8 := by omega
          simp only [push_cast, seval, reduceCtorEq, wrap_i64' (show -9223372036854775808 ≤ ((1 : Nat) : Int) + 1 ∧ ((1 : Nat) : Int) + 1 ≤ 9223372036854775807 by omega)]
          exact ⟨(2, vo, No), ⟨by dsimp only; omega, ho, hf⟩, by dsimp only; omega, ⟨rfl, rfl⟩, subH_self _, rfl⟩
    · simp only [push_cast, seval, reduceCtorEq, fb]
      refine loopO (noG_ok _) (pl := Tryz.pl55) Tryz.mix (X := Nat × Nat × Value × Hp)
        (fun s => ([(1, .pointer (some ⟨b1, 0, none⟩)), (3, s.2.2.1), (4, .int .i64 2), (5, .int .u64 s.2.1), (6, .int .i64 s.1)], s.2.2.2 ++ [⟨b1, 0, .cel 25, w.cells⟩]))
        (fun s => s.1 ≤ 8 ∧ s.2.1 = w.c / 256 ^ s.1 ∧ OutC 3 1 (zs (digs w.num (16 + s.1))) (16 + s.1) s.2.2.1 s.2.2.2 ∧ freshN s.2.2.2 [⟨b1, 0, .cel 25, w.cells⟩]) (fun s => 8 - s.1) (0, w.c, vo, No) ?_ ?_ (by kernel_rfl) ?_
      · exact ⟨by dsimp only; omega, by simp, ho, hf⟩
      · simp only [push_cast, seval, reduceCtorEq]
        exact subH_self _
      · rintro ⟨k, x, vo, No⟩ ⟨hk, hx, ho, hf⟩
        dsimp only at hk hx ho hf ⊢
        rcases Nat.lt_or_ge k 8 with hlt | hge
        · have k8 : (k : Int) < 8 := by omega
          obtain ⟨d, hd0⟩ : ∃ d, d = digN w.num (8 * 2 + k) := ⟨_, rfl⟩
          have hd : d = x % 256 := by rw [hd0, dig_part w (by decide) hlt, hx]; rfl
          have e1 : (x : Int).tmod 256 = (d : Int) := by rw [hd]; rfl
          have hdl : d < 256 := by rw [hd]; omega
          obtain ⟨x2, hx2⟩ : ∃ x2 : Nat, x2 = x / 256 := ⟨_, rfl⟩
          have e2 : (x : Int).tdiv 256 = (x2 : Int) := by rw [hx2]; rfl
          have hxl : x2 < 18446744073709551616 := by
            have := w.hc
            have h3 : x ≤ w.c := by rw [hx]; exact Nat.div_le_self _ _
            omega
          simp only [push_cast, seval, reduceCtorEq, k8, e1, wrap_i64' (show -9223372036854775808 ≤ (d : Int) ∧ (d : Int) ≤ 9223372036854775807 by omega)]
          intro b10 hb10
          refine append_out1 (e := 3) (sz := 1) (by_ := 8) (n := 16 + k) (m := 1) (ys := [.int .i64 (d : Int)]) ho hb10 (by simp only [push_cast, seval, reduceCtorEq]) (by simp only [push_cast, seval, reduceCtorEq]) rfl rfl (by unfold two47; omega) fun v' N' ho' hf' => ?_
          simp only [push_cast, seval, reduceCtorEq, e2, wrap_u64' (n := (x2 : Int)) (by omega), wrap_i64' (show -9223372036854775808 ≤ (k : Int) + 1 ∧ (k : Int) + 1 ≤ 9223372036854775807 by omega)]
          refine ⟨(k + 1, x2, v', N'), ⟨by dsimp only; omega, ?_, ?_, freshN_cons hf'⟩, by dsimp only; omega, ⟨rfl, rfl, rfl⟩, ?_, ?_⟩
          · dsimp only; rw [hx2, hx, Nat.div_div_eq_div_mul, Nat.pow_succ]
          · dsimp only
            have hz : zs (digs w.num (16 + (k + 1))) = zs (digs w.num (16 + k)) ++ [.int .i64 (d : Int)] := by rw [← Nat.add_assoc, digs_succ, zs_app, hd0]; rfl
            rw [hz]
            exact ho'
          · exact subH_pre (subH_cons (fresh_app hb10)) _
          · simp only [marks_append, marksOf, ho.wr.2, ho'.wr.2]
        · obtain rfl : k = 8 := by omega
          simp only [push_cast, seval, reduceCtorEq, wrap_i64' (show -9223372036854775808 ≤ ((2 : Nat) : Int) + 1 ∧ ((2 : Nat) : Int) + 1 ≤ 9223372036854775807 by omega)]
          exact ⟨(3, vo, No), ⟨by dsimp only; omega, ho, hf⟩, by dsimp only; omega, ⟨rfl, rfl⟩, subH_self _, rfl⟩
    · simp only [push_cast, seval, reduceCtorEq, fb]
      refine loopO (noG_ok _) (pl := Tryz.pl55) Tryz.mix (X := Nat × Nat × Value × Hp)
        (fun s => ([(1, .pointer (some ⟨b1, 0, none⟩)), (3, s.2.2.1), (4, .int .i64 3), (5, .int .u64 s.2.1), (6, .int .i64 s.1)], s.2.2.2 ++ [⟨b1, 0, .cel 25, w.cells⟩]))
        (fun s => s.1 ≤ 8 ∧ s.2.1 = w.d / 256 ^ s.1 ∧ OutC 3 1 (zs (digs w.num (24 + s.1))) (24 + s.1) s.2.2.1 s.2.2.2 ∧ freshN s.2.2.2 [⟨b1, 0, .cel 25, w.cells⟩]) (fun s => 8 - s.1) (0, w.d, vo, No) ?_ ?_ (by kernel_rfl) ?_
      · exact ⟨by dsimp only; omega, by simp, ho, hf⟩
      · simp only [push_cast, seval, reduceCtorEq]
        exact subH_self _
      · rintro ⟨k, x, vo, No⟩ ⟨hk, hx, ho, hf⟩
        dsimp only at hk hx ho hf ⊢
        rcases Nat.lt_or_ge k 8 with hlt | hge
        · have k8 : (k : Int) < 8 := by omega
          obtain ⟨d, hd0⟩ : ∃ d, d = digN w.num (8 * 3 + k) := ⟨_, rfl⟩
          have hd : d = x % 256 := by rw [hd0, dig_part w (by decide) hlt, hx]; rfl
          have e1 : (x : Int).tmod 256 = (d : Int) := by rw [hd]; rfl
          have hdl : d < 256 := by rw [hd]; omega
          obtain ⟨x2, hx2⟩ : ∃ x2 : Nat, x2 = x / 256 := ⟨_, rfl⟩
          have e2 : (x : Int).tdiv 256 = (x2 : Int) := by rw [hx2]; rfl
          have hxl : x2 < 18446744073709551616 := by
            have := w.hd
            have h3 : x ≤ w.d := by rw [hx]; exact Nat.div_le_self _ _
            omega
          simp only [push_cast, seval, reduceCtorEq, k8, e1, wrap_i64' (show -9223372036854775808 ≤ (d : Int) ∧ (d : Int) ≤ 9223372036854775807 by omega)]
          intro b10 hb10
          refine append_out1 (e := 3) (sz := 1) (by_ := 8) (n := 24 + k) (m := 1) (ys := [.int .i64 (d : Int)]) ho hb10 (by simp only [push_cast, seval, reduceCtorEq]) (by simp only [push_cast, seval, reduceCtorEq]) rfl rfl (by unfold two47; omega) fun v' N' ho' hf' => ?_
          simp only [push_cast, seval, reduceCtorEq, e2, wrap_u64' (n := (x2 : Int)) (by omega), wrap_i64' (show -9223372036854775808 ≤ (k : Int) + 1 ∧ (k : Int) + 1 ≤ 9223372036854775807 by omega)]
          refine ⟨(k + 1, x2, v', N'), ⟨by dsimp only; omega, ?_, ?_, freshN_cons hf'⟩, by dsimp only; omega, ⟨rfl, rfl, rfl⟩, ?_, ?_⟩
          · dsimp only; rw [hx2, hx, Nat.div_div_eq_div_mul, Nat.pow_succ]
          · dsimp only
            have hz : zs (digs w.num (24 + (k + 1))) = zs (digs w.num (24 + k)) ++ [.int .i64 (d : Int)] := by rw [← Nat.add_assoc, digs_succ, zs_app, hd0]; rfl
            rw [hz]
            exact ho'
          · exact subH_pre (subH_cons (fresh_app hb10)) _
          · simp only [marks_append, marksOf, ho.wr.2, ho'.wr.2]
        · obtain rfl : k = 8 := by omega
          simp only [push_cast, seval, reduceCtorEq, wrap_i64' (show -9223372036854775808 ≤ ((3 : Nat) : Int) + 1 ∧ ((3 : Nat) : Int) + 1 ≤ 9223372036854775807 by omega)]
          exact ⟨(4, vo, No), ⟨by dsimp only; omega, ho, hf⟩, by dsimp only; omega, ⟨rfl, rfl⟩, subH_self _, rfl⟩
    · simp only [push_cast, seval, reduceCtorEq]
      refine ⟨No, ?_, ho⟩
      rw [dropM_eq (by simp only [marks_append, marksOf, ho.wr.2, List.append_nil])]
      exact List.sublist_append_left _ _
end Go.Proofs.YtolmipnaheifcaaGreatDoor
set_option linter.unusedSimpArgs false
set_option linter.unusedVariables false
namespace Go.Ev
noncomputable def word : Int → Nat := hid fun n => (n % 115792089237316195423570985008687907853269984665640564039457584007913129639936).toNat
theorem word_eq (n : Int) : word n = (n % 115792089237316195423570985008687907853269984665640564039457584007913129639936).toNat := by unfold word; rw [hid_eq]
theorem word_digit (n : Int) {i : Nat} (h : i < 32) : ((digN (word n) i : Nat) : Int) = n / 256 ^ i % 256 := by
  have hw : ((word n : Nat) : Int) = n % 115792089237316195423570985008687907853269984665640564039457584007913129639936 := by
    rw [word_eq]; exact Int.toNat_of_nonneg (Int.emod_nonneg _ (by decide))
  rw [digN_eq]
  rw [Int.natCast_emod, Int.natCast_ediv, Int.natCast_pow, hw]
  show (n % 115792089237316195423570985008687907853269984665640564039457584007913129639936) / 256 ^ i % 256 = n / 256 ^ i % 256
  have e : (115792089237316195423570985008687907853269984665640564039457584007913129639936 : Int) = 256 ^ i * (256 * 256 ^ (31 - i)) := by
    rw [← Int.pow_succ', ← Int.pow_add, show i + (31 - i + 1) = 32 by omega]; decide
  have h2 := Int.mul_ediv_add_emod n 115792089237316195423570985008687907853269984665640564039457584007913129639936
  generalize n % 115792089237316195423570985008687907853269984665640564039457584007913129639936 = m at *
  generalize n / 115792089237316195423570985008687907853269984665640564039457584007913129639936 = q at *
  rw [e] at h2
  rw [← h2, Int.mul_assoc, Int.add_comm, Int.add_mul_ediv_left _ _ (Int.pow_ne_zero (by decide)), Int.mul_assoc, Int.add_mul_emod_self_left]
theorem zs_at (L : List Int) {i : Nat} (h : i < L.length) : List.take 1 (List.drop i (zs L)) = [.int .i64 (L.getD i 0)] := by
  unfold zs
  rw [← List.map_drop, ← List.map_take, List.drop_eq_getElem_cons h, List.take_succ_cons, List.take_zero, List.map_cons, List.map_nil, List.getD_eq_getElem?_getD, List.getElem?_eq_getElem h]; rfl
end Go.Ev
namespace Go.Proofs.YtolmipnaheifcaaGreatDoor
open Go Go.Ev Go.Proofs
set_option maxRecDepth 100000
set_option maxHeartbeats 4000000
end Go.Proofs.YtolmipnaheifcaaGreatDoor
set_option linter.unusedSimpArgs false
set_option linter.unusedVariables false
namespace Go.Ev
noncomputable def cut : Nat → Nat → Nat := hid fun x e => x / 256 ^ e
theorem cut_eq (x e : Nat) : cut x e = x / 256 ^ e := by unfold cut; rw [hid_eq]
theorem cut_zero (x : Nat) : cut x 0 = x := by rw [cut_eq, Nat.pow_zero, Nat.div_one]
theorem cut_lt {x : Nat} (h : x < 18446744073709551616) (e : Nat) : cut x e < 18446744073709551616 := by rw [cut_eq]; exact Nat.lt_of_le_of_lt (Nat.div_le_self _ _) h
theorem cut_8 {x : Nat} (h : x < 18446744073709551616) {e : Nat} (he : 8 ≤ e) : cut x e = 0 := by
  rw [cut_eq]
  refine Nat.div_eq_of_lt (Nat.lt_of_lt_of_le h ?_)
  exact Nat.le_trans (by decide : 18446744073709551616 ≤ 256 ^ 8) (Nat.pow_le_pow_right (by decide) he)
theorem cut_step (x e : Nat) : cut x (e + 1) * 256 + x / 256 ^ e % 256 = cut x e := by
  rw [cut_eq, cut_eq, Nat.pow_succ, ← Nat.div_div_eq_div_mul]; omega
theorem digs_at (m : Nat) {k i : Nat} (h : i < k) : List.take 1 (List.drop i (zs (digs m k))) = [.int .i64 ((digN m i : Nat) : Int)] := by
  rw [zs_at _ (by rw [digs_len]; exact h)]
  unfold digs
  rw [List.getD_eq_getElem?_getD, List.getElem?_map, List.getElem?_range h]; rfl
theorem digN_of (m : Nat) {i : Nat} (h : i < 32) : digN m i = digN (W.of m).num i := by
  have h1 := word_digit (m : Int) h
  have h2 : word (m : Int) = (W.of m).num := by
    rw [word_eq, W.num_of]
    omega
  rw [h2] at h1
  have : ((digN (W.of m).num i : Nat) : Int) = ((digN m i : Nat) : Int) := by
    rw [h1, digN_eq, Int.natCast_emod, Int.natCast_ediv, Int.natCast_pow]; rfl
  omega
theorem cut_top {m k : Nat} (h : 32 ≤ k ∨ m < 256 ^ k) {p : Nat} (hp : p < 4) : cut ((W.of m).part p) (min k 32 - 8 * p) = 0 := by
  rcases h with h | h
  · exact cut_8 (part_lt _ _) (by omega)
  · rcases Nat.lt_or_ge k 32 with hk | hk
    rotate_left
    · exact cut_8 (part_lt _ _) (by omega)
    rw [show min k 32 = k by omega]
    have hlt : m < 115792089237316195423570985008687907853269984665640564039457584007913129639936 := Nat.lt_of_lt_of_le h (Nat.le_trans (Nat.pow_le_pow_right (by decide) (by omega : k ≤ 32)) (by decide))
    have hn : (W.of m).num = m := by rw [W.num_of, Nat.mod_eq_of_lt hlt]
    rw [cut_eq]
    refine Nat.div_eq_of_lt ?_
    have hpart : (W.of m).part p * 256 ^ (8 * p) ≤ (W.of m).num := by
      obtain rfl | rfl | rfl | rfl : p = 0 ∨ p = 1 ∨ p = 2 ∨ p = 3 := by omega
      all_goals unfold W.num W.part; simp only [Nat.reducePow, Nat.reduceMul]; omega
    rw [hn] at hpart
    rcases Nat.lt_or_ge k (8 * p) with h1 | h1
    · rw [show k - 8 * p = 0 by omega, Nat.pow_zero]
      rcases Nat.eq_zero_or_pos ((W.of m).part p) with h0 | h0
      · omega
      · have := Nat.le_mul_of_pos_left (256 ^ (8 * p)) h0
        have := Nat.pow_le_pow_right (by decide : 0 < 256) (Nat.le_of_lt h1)
        omega
    · have e : 256 ^ k = 256 ^ (k - 8 * p) * 256 ^ (8 * p) := by rw [← Nat.pow_add]; congr 1; omega
      rw [e] at h
      exact Nat.lt_of_mul_lt_mul_right (Nat.lt_of_le_of_lt hpart h)
end Go.Ev
namespace Go.Proofs.YtolmipnaheifcaaGreatDoor
open Go Go.Ev Go.Proofs
set_option maxRecDepth 100000
set_option maxHeartbeats 4000000
theorem fromDigits_ok (m k b c : Nat) (hk : k < 1099511627776) (hmk : 32 ≤ k ∨ m < 256 ^ k) :
    CallsV Tryz.prog 53 [.slice (some ⟨b, 0, none⟩) k c] [⟨b, 0, .ro, zs (digs m k)⟩] (Ret0 (W.of m).v) := by
  obtain ⟨w, hw⟩ : ∃ w, w = W.of m := ⟨_, rfl⟩
  rw [← hw]
  have ha := w.ha; have hb := w.hb; have hc := w.hc; have hd := w.hd
  obtain ⟨q, hq⟩ : ∃ q, q = min k 32 := ⟨_, rfl⟩
  have eq : (if (32 : Int) < (k : Int) then (32 : Int) else (k : Int)) = (q : Int) := by split <;> omega
  refine callsO (noG_ok _) Tryz.mix Tryz.pl53 Tryz.func53 rfl Tryz.ntmps53 Tryz.results53 rfl (by first | rfl | assumption) (Nat.le_of_ble_eq_true rfl) (by kernel_rfl) ?_
  simp only [push_cast, seval, reduceCtorEq]
  intro b2 hb2 b3 hb3
  refine loopO (noG_ok _) (pl := Tryz.pl53) Tryz.mix (X := Nat)
    (fun s => ([(0, .slice (some ⟨b, 0, none⟩) k c), (2, .pointer (some ⟨b2, 0, none⟩)), (3, .pointer (some ⟨b3, 0, none⟩)), (4, .int .i64 ((s : Int) - 1))],
      [⟨b3, 0, .cel 25, [.int .u64 (cut w.a (s - 0) : Nat), .int .u64 (cut w.b (s - 8) : Nat), .int .u64 (cut w.c (s - 16) : Nat), .int .u64 (cut w.d (s - 24) : Nat)]⟩, ⟨b2, 0, .cel 25, [.int .u64 0, .int .u64 0, .int .u64 0, .int .u64 0]⟩, ⟨b, 0, .ro, zs (digs m k)⟩]))
    (fun s => s ≤ q) (fun s => s) q ?_ ?_ (by kernel_rfl) ?_
  · exact Nat.le_refl _
  · have z0 := cut_top hmk (p := 0) (by decide)
    have z1 := cut_top hmk (p := 1) (by decide)
    have z2 := cut_top hmk (p := 2) (by decide)
    have z3 := cut_top hmk (p := 3) (by decide)
    rw [← hw, ← hq] at z0 z1 z2 z3
    replace z0 : cut w.a (q - 0) = 0 := z0
    replace z1 : cut w.b (q - 8) = 0 := z1
    replace z2 : cut w.c (q - 16) = 0 := z2
    replace z3 : cut w.d (q - 24) = 0 := z3
    rw [z0, z1, z2, z3, eq, wrap_i64' (show -9223372036854775808 ≤ (q : Int) - 1 ∧ (q : Int) - 1 ≤ 9223372036854775807 by omega)]
    simp only [push_cast, seval, reduceCtorEq]
  · intro s hs
    dsimp only at hs ⊢
    rcases Nat.eq_zero_or_pos s with rfl | h0
    · simp only [push_cast, seval, reduceCtorEq, hb2, hb3, Nat.zero_sub, cut_zero]
      rfl
    · obtain ⟨j, rfl⟩ : ∃ j, s = j + 1 := ⟨s - 1, by omega⟩
      have hj : ((j + 1 : Nat) : Int) - 1 = (j : Int) := by omega
      have j0 : (0 : Int) ≤ (j : Int) := by omega
      have jk : (j : Int) < (k : Int) := by omega
      have jl : j + 1 ≤ (zs (digs m k)).length := by rw [zs_len, digs_len]; omega
      have hz := digs_at m (k := k) (i := j) (by omega)
      have hdg := digN_of m (i := j) (by omega)
      have hdl := digN_lt m j
      rw [← hw] at hdg
      generalize digN m j = dg at *
      rw [hj]
      obtain ⟨p, hp⟩ : ∃ p, p = j / 8 := ⟨_, rfl⟩
      have e8 : (j : Int).tdiv 8 = (p : Int) := by rw [hp]; rfl
      obtain rfl | rfl | rfl | rfl : p = 0 ∨ p = 1 ∨ p = 2 ∨ p = 3 := by omega
      · have hdig : dg = w.a / 256 ^ j % 256 := by
          rw [hdg]
          have := dig_part w (i := 0) (k := j) (by decide) (by omega)
          rw [show 8 * 0 + j = j by omega] at this
          exact this
        have hst := cut_step w.a j
        rw [← hdig, show j + 1 = j + 1 by omega] at hst
        have hlt := cut_lt (x := w.a) (by omega) j
        have h1c : j - 7 = 0 := by omega
        have h1a : j + 1 - 8 = 0 := by omega
        have h1b : (j - 8) = 0 := by omega
        have h2c : j - 15 = 0 := by omega
        have h2a : j + 1 - 16 = 0 := by omega
        have h2b : (j - 16) = 0 := by omega
        have h3c : j - 23 = 0 := by omega
        have h3a : j + 1 - 24 = 0 := by omega
        have h3b : (j - 24) = 0 := by omega
        obtain ⟨x1, hx1⟩ : ∃ x, x = cut w.a (j + 1) := ⟨_, rfl⟩
        obtain ⟨x2, hx2⟩ : ∃ x, x = cut w.a j := ⟨_, rfl⟩
        rw [← hx1, ← hx2] at hst
        rw [← hx2] at hlt
        have m1 : (x1 : Int) * 256 + (dg : Int) = (x2 : Int) := by omega
        simp only [push_cast, seval, reduceCtorEq, hb2, hb3, h1a, h1b, h1c, h2a, h2b, h2c, h3a, h3b, h3c, cut_zero, ← hx1, e8, j0, jk, jl, hz, m1, wrap_u64' (n := (x1 : Int) * 256) (by omega), wrap_u64' (n := (dg : Int)) (by omega), wrap_u64' (n := (x2 : Int)) (by omega), wrap_i64' (show -9223372036854775808 ≤ (j : Int) - 1 ∧ (j : Int) - 1 ≤ 9223372036854775807 by omega)]
        exact ⟨j, by omega, by omega, rfl, by simp only [hx2, h1b, h2b, h3b, cut_zero, Nat.sub_zero, Int.natCast_zero]⟩
      · have hdig : dg = w.b / 256 ^ (j - 8) % 256 := by
          rw [hdg]
          have := dig_part w (i := 1) (k := (j - 8)) (by decide) (by omega)
          rw [show 8 * 1 + (j - 8) = j by omega] at this
          exact this
        have hst := cut_step w.b (j - 8)
        rw [← hdig, show (j - 8) + 1 = j + 1 - 8 by omega] at hst
        have hlt := cut_lt (x := w.b) (by omega) (j - 8)
        have h0a : cut w.a (j + 1) = 0 := cut_8 (by omega) (by omega)
        have h0b : cut w.a j = 0 := cut_8 (by omega) (by omega)
        have h2c : j - 15 = 0 := by omega
        have h2a : j + 1 - 16 = 0 := by omega
        have h2b : (j - 16) = 0 := by omega
        have h3c : j - 23 = 0 := by omega
        have h3a : j + 1 - 24 = 0 := by omega
        have h3b : (j - 24) = 0 := by omega
        obtain ⟨x1, hx1⟩ : ∃ x, x = cut w.b (j + 1 - 8) := ⟨_, rfl⟩
        obtain ⟨x2, hx2⟩ : ∃ x, x = cut w.b (j - 8) := ⟨_, rfl⟩
        have hx1c : cut w.b (j - 7) = x1 := by rw [hx1, show j + 1 - 8 = j - 7 by omega]
        rw [← hx1, ← hx2] at hst
        rw [← hx2] at hlt
        have m1 : (x1 : Int) * 256 + (dg : Int) = (x2 : Int) := by omega
        simp only [push_cast, seval, reduceCtorEq, hb2, hb3, h0a, h0b, h2a, h2b, h2c, h3a, h3b, h3c, hx1c, cut_zero, ← hx1, e8, j0, jk, jl, hz, m1, wrap_u64' (n := (x1 : Int) * 256) (by omega), wrap_u64' (n := (dg : Int)) (by omega), wrap_u64' (n := (x2 : Int)) (by omega), wrap_i64' (show -9223372036854775808 ≤ (j : Int) - 1 ∧ (j : Int) - 1 ≤ 9223372036854775807 by omega)]
        exact ⟨j, by omega, by omega, rfl, by simp only [hx2, h0b, h2b, h3b, cut_zero, Nat.sub_zero, Int.natCast_zero]⟩
      · have hdig : dg = w.c / 256 ^ (j - 16) % 256 := by
          rw [hdg]
          have := dig_part w (i := 2) (k := (j - 16)) (by decide) (by omega)
          rw [show 8 * 2 + (j - 16) = j by omega] at this
          exact this
        have hst := cut_step w.c (j - 16)
        rw [← hdig, show (j - 16) + 1 = j + 1 - 16 by omega] at hst
        have hlt := cut_lt (x := w.c) (by omega) (j - 16)
        have h0a : cut w.a (j + 1) = 0 := cut_8 (by omega) (by omega)
        have h0b : cut w.a j = 0 := cut_8 (by omega) (by omega)
        have h1c : cut w.b (j - 7) = 0 := cut_8 (by omega) (by omega)
        have h1a : cut w.b (j + 1 - 8) = 0 := cut_8 (by omega) (by omega)
        have h1b : cut w.b (j - 8) = 0 := cut_8 (by omega) (by omega)
        have h3c : j - 23 = 0 := by omega
        have h3a : j + 1 - 24 = 0 := by omega
        have h3b : (j - 24) = 0 := by omega
        obtain ⟨x1, hx1⟩ : ∃ x, x = cut w.c (j + 1 - 16) := ⟨_, rfl⟩
        obtain ⟨x2, hx2⟩ : ∃ x, x = cut w.c (j - 16) := ⟨_, rfl⟩
        have hx1c : cut w.c (j - 15) = x1 := by rw [hx1, show j + 1 - 16 = j - 15 by omega]
        rw [← hx1, ← hx2] at hst
        rw [← hx2] at hlt
        have m1 : (x1 : Int) * 256 + (dg : Int) = (x2 : Int) := by omega
        simp only [push_cast, seval, reduceCtorEq, hb2, hb3, h0a, h0b, h1a, h1b, h1c, h3a, h3b, h3c, hx1c, cut_zero, ← hx1, e8, j0, jk, jl, hz, m1, wrap_u64' (n := (x1 : Int) * 256) (by omega), wrap_u64' (n := (dg : Int)) (by omega), wrap_u64' (n := (x2 : Int)) (by omega), wrap_i64' (show -9223372036854775808 ≤ (j : Int) - 1 ∧ (j : Int) - 1 ≤ 9223372036854775807 by omega)]
        exact ⟨j, by omega, by omega, rfl, by simp only [hx2, h0b, h1b, h3b, cut_zero, Nat.sub_zero, Int.natCast_zero]⟩
      · have hdig : dg = w.d / 256 ^ (j - 24) % 256 := by
          rw [hdg]
          have := dig_part w (i := 3) (k := (j - 24)) (by decide) (by omega)
          rw [show 8 * 3 + (j - 24) = j by omega] at this
          exact this
        have hst := cut_step w.d (j - 24)
        rw [← hdig, show (j - 24) + 1 = j + 1 - 24 by omega] at hst
        have hlt := cut_lt (x := w.d) (by omega) (j - 24)
        have h0a : cut w.a (j + 1) = 0 := cut_8 (by omega) (by omega)
        have h0b : cut w.a j = 0 := cut_8 (by omega) (by omega)
        have h1c : cut w.b (j - 7) = 0 := cut_8 (by omega) (by omega)
        have h1a : cut w.b (j + 1 - 8) = 0 := cut_8 (by omega) (by omega)
        have h1b : cut w.b (j - 8) = 0 := cut_8 (by omega) (by omega)
        have h2c : cut w.c (j - 15) = 0 := cut_8 (by omega) (by omega)
        have h2a : cut w.c (j + 1 - 16) = 0 := cut_8 (by omega) (by omega)
        have h2b : cut w.c (j - 16) = 0 := cut_8 (by omega) (by omega)
        obtain ⟨x1, hx1⟩ : ∃ x, x = cut w.d (j + 1 - 24) := ⟨_, rfl⟩
        obtain ⟨x2, hx2⟩ : ∃ x, x = cut w.d (j - 24) := ⟨_, rfl⟩
        have hx1c : cut w.d (j - 23) = x1 := by rw [hx1, show j + 1 - 24 = j - 23 by omega]
        rw [← hx1, ← hx2] at hst
        rw [← hx2] at hlt
        have m1 : (x1 : Int) * 256 + (dg : Int) = (x2 : Int) := by omega
        simp only [push_cast, seval, reduceCtorEq, hb2, hb3, h0a, h0b, h1a, h1b, h1c, h2a, h2b, h2c, hx1c, cut_zero, ← hx1, e8, j0, jk, jl, hz, m1, wrap_u64' (n := (x1 : Int) * 256) (by omega), wrap_u64' (n := (dg : Int)) (by omega), wrap_u64' (n := (x2 : Int)) (by omega), wrap_i64' (show -9223372036854775808 ≤ (j : Int) - 1 ∧ (j : Int) - 1 ≤ 9223372036854775807 by omega)]
        exact ⟨j, by omega, by omega, rfl, by simp only [hx2, h0b, h1b, h2b, cut_zero, Nat.sub_zero, Int.natCast_zero]⟩
end Go.Proofs.YtolmipnaheifcaaGreatDoor
set_option linter.unusedSimpArgs false
set_option linter.unusedVariables false
namespace Go.Ev
def beN : List UInt8 → Nat
  | [] => 0
  | x :: r => x.toNat + 256 * beN r
theorem beN_lt : ∀ (r : List UInt8), beN r < 256 ^ r.length
  | [] => by simp [beN]
  | x :: r => by
    have := beN_lt r
    have hx := x.toNat_lt
    simp only [beN, List.length_cons, Nat.pow_succ]
    omega
theorem digN_beN : ∀ (r : List UInt8) (i : Nat) (h : i < r.length), digN (beN r) i = (r[i]).toNat
  | [], i, h => absurd h (Nat.not_lt_zero _)
  | x :: r, 0, _ => by
    have hx := x.toNat_lt
    rw [digN_eq]
    simp only [beN, Nat.pow_zero, Nat.div_one, List.getElem_cons_zero]
    omega
  | x :: r, i + 1, h => by
    have hx := x.toNat_lt
    have := digN_beN r i (by simpa using h)
    rw [digN_eq] at this ⊢
    rw [Nat.pow_succ, Nat.mul_comm, ← Nat.div_div_eq_div_mul, List.getElem_cons_succ, ← this]
    congr 2
    simp only [beN]
    omega
noncomputable def frombW : List UInt8 → W := hid fun l => W.of (beN (l.reverse.take 32))
theorem frombW_eq (l : List UInt8) : frombW l = W.of (beN (l.reverse.take 32)) := by unfold frombW; rw [hid_eq]
end Go.Ev
namespace Go.Proofs.YtolmipnaheifcaaGreatDoor
open Go Go.Ev Go.Proofs
set_option maxRecDepth 100000
set_option maxHeartbeats 4000000
theorem fromDigits_nil : CallsV Tryz.prog 53 [.slice none 0 0] [] (Ret0 (W.of 0).v) := by
  have hz : W.of 0 = W.zero := by
    refine W.num_inj ?_
    rw [W.num_of]; rfl
  rw [hz]
  refine callsO (noG_ok _) Tryz.mix Tryz.pl53 Tryz.func53 rfl Tryz.ntmps53 Tryz.results53 rfl (by first | rfl | assumption) (Nat.le_of_ble_eq_true rfl) (by kernel_rfl) ?_
  simp only [push_cast, seval, reduceCtorEq]
  intro b2 b3 hb3
  refine unrollO (noG_ok _) (pl := Tryz.pl53) Tryz.mix 1 (by kernel_rfl) ?_
  simp only [push_cast, seval, reduceCtorEq, hb3]
  rfl
theorem refFromBytes (b : ByteArray) (hlb : b.size < 4611686018427387904) : CallsV Tryz.prog 30 [.string b] [] (Ret0 (frombW b.data.toList).v) := by
  obtain ⟨l, rfl⟩ := bs_of b
  rw [bs_size] at hlb
  rw [bs_data]
  obtain ⟨R, hR⟩ : ∃ R, R = frombW l := ⟨_, rfl⟩
  rw [← hR]
  obtain ⟨rv, hrv⟩ : ∃ rv, rv = l.reverse.take 32 := ⟨_, rfl⟩
  have hrl : rv.length = min 32 l.length := by rw [hrv, List.length_take, List.length_reverse]
  have hRe : R = W.of (beN rv) := by rw [hR, frombW_eq, hrv]
  have hat : ∀ i (h : i < rv.length) (h2 : l.length - 1 - i < l.length), digN (beN rv) i = (l[l.length - 1 - i]).toNat := fun i h h2 => by
    rw [digN_beN rv i h]
    congr 1
    simp only [hrv, List.getElem_take, List.getElem_reverse]
  refine callsO (noG_ok _) Tryz.mix Tryz.pl30 Tryz.func30 rfl Tryz.ntmps30 Tryz.results30 rfl (by first | rfl | assumption) (Nat.le_of_ble_eq_true rfl) (by kernel_rfl) ?_
  simp only [push_cast, seval, reduceCtorEq]
  intro b2
  refine loopO (noG_ok _) (pl := Tryz.pl30) Tryz.mix (X := Nat × Value × Hp)
    (fun s => ([(0, .string (bs l)), (2, .pointer (some ⟨b2, 0, none⟩)), (3, s.2.1), (4, .int .i64 ((l.length : Int) - 1 - (s.1 : Int)))], s.2.2 ++ [⟨b2, 0, .cel 25, [.int .u64 0, .int .u64 0, .int .u64 0, .int .u64 0]⟩]))
    (fun s => s.1 ≤ rv.length ∧ OutC 3 1 (zs (digs (beN rv) s.1)) s.1 s.2.1 s.2.2 ∧ freshN s.2.2 [⟨b2, 0, .cel 25, [.int .u64 0, .int .u64 0, .int .u64 0, .int .u64 0]⟩]) (fun s => rv.length - s.1) (0, .slice none 0 0, []) ?_ ?_ (by kernel_rfl) ?_
  · exact ⟨Nat.zero_le _, .nil _ _, trivial⟩
  · simp only [push_cast, seval, reduceCtorEq, wrap_i64' (show -9223372036854775808 ≤ (l.length : Int) - 1 ∧ (l.length : Int) - 1 ≤ 9223372036854775807 by omega), Int.sub_zero]
  · rintro ⟨j, vo, No⟩ ⟨hj, ho, hf⟩
    dsimp only at hj ho hf ⊢
    have fin : ∀ (K' : Value → Hp → Prop), j = rv.length → K' R.v (No ++ [⟨b2, 0, .cel 25, [.int .u64 0, .int .u64 0, .int .u64 0, .int .u64 0]⟩]) → CallsV Tryz.prog 53 [vo] (No ++ [⟨b2, 0, .cel 25, [.int .u64 0, .int .u64 0, .int .u64 0, .int .u64 0]⟩]) K' := fun K' hjr hk => by
      rcases Nat.eq_zero_or_pos j with h0 | h0
      · have hv0 : rv = [] := List.eq_nil_of_length_eq_zero (by omega)
        rcases ho with ⟨_, _, rfl, rfl⟩ | ⟨g, c, hlt, _⟩
        · refine (fromDigits_nil).pure trivial ?_
          rw [hRe, hv0] at hk
          exact hk
        · omega
      · obtain ⟨bz, cz, rfl, hcz, hzl, rfl⟩ := ho.pos h0
        have hlt := beN_lt rv
        rw [← hjr] at hlt
        have hz : (zs (digs (beN rv) j)).length = j := by rw [zs_len, digs_len]
        have htk : List.take j (zs (digs (beN rv) j)) = zs (digs (beN rv) j) := List.take_of_length_le (by rw [hz]; exact Nat.le_refl _)
        refine (fromDigits_ok (beN rv) j bz cz (by omega) (.inr hlt)).pure ?_ (by rw [← hRe]; exact hk)
        simp only [push_cast, seval, reduceCtorEq, hz, htk]
    have f0 : findE [⟨b2, 0, .cel 25, [.int .u64 0, .int .u64 0, .int .u64 0, .int .u64 0]⟩] b2 = some ⟨b2, 0, .cel 25, [.int .u64 0, .int .u64 0, .int .u64 0, .int .u64 0]⟩ := by simp only [push_cast, seval, reduceCtorEq]
    have fb : findE (No ++ [⟨b2, 0, .cel 25, [.int .u64 0, .int .u64 0, .int .u64 0, .int .u64 0]⟩]) b2 = some ⟨b2, 0, .cel 25, [.int .u64 0, .int .u64 0, .int .u64 0, .int .u64 0]⟩ := by rw [findE_freshN hf f0]; exact f0
    have ub : ∀ cs, updE (No ++ [⟨b2, 0, .cel 25, [.int .u64 0, .int .u64 0, .int .u64 0, .int .u64 0]⟩]) b2 cs = No ++ [⟨b2, 0, .cel 25, cs⟩] := fun cs => updE_freshN hf cs
    have fr : ∀ cs, findE (No ++ [⟨b2, 0, .cel 25, cs⟩]) b2 = some ⟨b2, 0, .cel 25, cs⟩ := fun cs => by
      have hf3 : freshN No [⟨b2, 0, .cel 25, cs⟩] := freshN_blk (by rfl) hf
      rw [findE_freshN hf3 (b := b2) (e := ⟨b2, 0, .cel 25, cs⟩) (by simp [findE])]; simp [findE]
    have mk : ∀ cs, dropM (No ++ [⟨b2, 0, .cel 25, cs⟩]) = No ++ [⟨b2, 0, .cel 25, cs⟩] := fun cs => dropM_eq (by rw [marks_append, ho.wr.2]; rfl)
    obtain ⟨pa, ca, rfl⟩ := ho.slice
    rcases Nat.lt_or_ge j rv.length with hlt | hge
    · obtain ⟨i, hi⟩ : ∃ i, i = l.length - 1 - j := ⟨_, rfl⟩
      have ei : (l.length : Int) - 1 - (j : Int) = (i : Int) := by omega
      have i0 : (0 : Int) ≤ (i : Int) := by omega
      have i1 : (i : Int) < (l.length : Int) := by omega
      have il : i < l.length := by omega
      have j32 : (j : Int) < 32 := by omega
      have hd := hat j hlt (by omega)
      have hg : (bs l).data[i]? = some l[i] := by
        rw [← Array.getElem?_toList, bs_data, List.getElem?_eq_getElem il]
      have hx : (l[i]).toNat < 256 := (l[i]).toNat_lt
      have hdi : digN (beN rv) j = (l[i]).toNat := by rw [hd]; simp only [hi]
      simp only [push_cast, seval, reduceCtorEq, ei, i0, i1, j32, hg, wrap_i64' (show -9223372036854775808 ≤ ((l[i]).toNat : Int) ∧ ((l[i]).toNat : Int) ≤ 9223372036854775807 by omega)]
      intro b10 hb10
      refine append_out1 (e := 3) (sz := 1) (by_ := 8) (n := j) (m := 1) (ys := [.int .i64 ((l[i]).toNat : Int)]) ho hb10 (by simp only [push_cast, seval, reduceCtorEq]) (by simp only [push_cast, seval, reduceCtorEq]) rfl rfl (by unfold two47; omega) fun v' N' ho' hf' => ?_
      simp only [push_cast, seval, reduceCtorEq, wrap_i64' (show -9223372036854775808 ≤ (i : Int) - 1 ∧ (i : Int) - 1 ≤ 9223372036854775807 by omega)]
      refine ⟨(j + 1, v', N'), ⟨hlt, ?_, freshN_cons hf'⟩, by dsimp only; omega, ⟨rfl, ?_⟩, subH_pre (subH_cons (fresh_app hb10)) _, ?_⟩
      · dsimp only
        rw [digs_succ, zs_app, hdi]
        exact ho'
      · dsimp only
        congr 1
        omega
      · simp only [marks_append, marksOf, ho.wr.2, ho'.wr.2]
    · obtain rfl : j = rv.length := by omega
      rcases Nat.lt_or_ge 32 l.length with h32 | h32
      · have e1 : ((rv.length : Nat) : Int) = 32 := by omega
        have e2 : (0 : Int) ≤ (l.length : Int) - 1 - 32 := by omega
        simp only [push_cast, seval, reduceCtorEq, e1, e2]
        refine fin _ rfl ?_
        simp only [push_cast, seval, reduceCtorEq, fb, ub, fr, mk]
        done
      · have e2 : ¬ (0 : Int) ≤ (l.length : Int) - 1 - (rv.length : Int) := by omega
        simp only [push_cast, seval, reduceCtorEq, e2]
        refine fin _ rfl ?_
        simp only [push_cast, seval, reduceCtorEq, fb, ub, fr, mk]
        done
end Go.Proofs.YtolmipnaheifcaaGreatDoor
set_option linter.unusedSimpArgs false
set_option linter.unusedVariables false
namespace Go.Ev
inductive Rd (α : Type) where
  | bad (e p : Nat)
  | ok (x : α) (a m : Nat)
def numN (l : List UInt8) : Nat := beN l.reverse
def sizeD (s : List UInt8) (k e a : Nat) : Rd Nat :=
  if (s.getD a 0).toNat - k ≤ 55 then (if e - (a + 1) < (s.getD a 0).toNat - k then .bad 10 a else .ok ((s.getD a 0).toNat - k) (a + 1) 0)
  else if e - (a + 1) < (s.getD a 0).toNat - k - 55 then .bad 10 a
  else if s.getD (a + 1) 0 = 0 ∨ numN ((s.drop (a + 1)).take ((s.getD a 0).toNat - k - 55)) ≤ 55 then .bad 11 (a + 1)
  else if e - (a + 1 + ((s.getD a 0).toNat - k - 55)) < numN ((s.drop (a + 1)).take ((s.getD a 0).toNat - k - 55)) then .bad 10 a
  else .ok (numN ((s.drop (a + 1)).take ((s.getD a 0).toNat - k - 55))) (a + 1 + ((s.getD a 0).toNat - k - 55)) 0
def listD (f : Nat → Nat → Rd It) (e : Nat) : Nat → Nat → Nat → List It → Rd (List It)
  | 0, a, m, l => .ok l a m
  | k + 1, a, m, l => if a < e then (match f a m with
    | .bad x p => .bad x p
    | .ok y a' m' => listD f e k a' m' (l ++ [y])) else .ok l a m
def textD (s : List UInt8) (a b n m : Nat) : Rd It :=
  if n = 1 ∧ (s.getD b 0).toNat < 128 then .bad 11 a else .ok (.mk false ((s.drop b).take n) []) (b + n) m
def packD : Rd (List It) → Rd It
  | .bad x p => .bad x p
  | .ok l a m => .ok (.mk true [] l) a m
def stepD (s : List UInt8) (f : Nat → Nat → Nat → Rd It) (e a m : Nat) : Rd It :=
  if 5000 ≤ m then .bad 2 a
  else if e ≤ a then .bad 10 a
  else if (s.getD a 0).toNat < 128 then .ok (.mk false [s.getD a 0] []) (a + 1) (m + 1)
  else if (s.getD a 0).toNat < 192 then (match sizeD s 128 e a with
    | .bad x p => .bad x p
    | .ok n b _ => textD s a b n (m + 1))
  else match sizeD s 192 e a with
    | .bad x p => .bad x p
    | .ok n b _ => packD (listD (fun a m => f (b + n) a m) (b + n) (s.length + 1) b (m + 1) [])
def itemD (s : List UInt8) : Nat → Nat → Nat → Nat → Rd It
  | 0 => fun _ a _ => .bad 13 a
  | d + 1 => stepD s (itemD s d)
theorem itemD_zero (s : List UInt8) (e a m : Nat) : itemD s 0 e a m = .bad 13 a := rfl
theorem itemD_succ (s : List UInt8) (d e a m : Nat) : itemD s (d + 1) e a m = stepD s (itemD s d) e a m := rfl
def noI : It := .mk false [] []
def wholeD (s : List UInt8) : Rd It :=
  match itemD s 16 s.length 0 0 with
  | .bad x p => .bad x p
  | .ok x a m => if a < s.length then .bad 12 a else .ok x a m
def decD (s : List UInt8) : It × Nat × Nat :=
  if 1048576 < s.length then (noI, 2, 0)
  else match wholeD s with
    | .bad x p => (noI, x, p)
    | .ok x _ _ => (x, 0, 0)
theorem beN_app : ∀ (a b : List UInt8), beN (a ++ b) = beN a + 256 ^ a.length * beN b
  | [], b => by simp [beN]
  | x :: r, b => by
    rw [List.cons_append, beN, beN, beN_app r b, List.length_cons, Nat.pow_succ, Nat.mul_add]
    rw [show 256 ^ r.length * 256 * beN b = 256 * (256 ^ r.length * beN b) by rw [Nat.mul_comm (256 ^ r.length) 256, Nat.mul_assoc]]
    omega
theorem beN_inj : ∀ (a b : List UInt8), a.length = b.length → beN a = beN b → a = b
  | [], [], _, _ => rfl
  | [], y :: q, h, _ => by cases h
  | x :: r, [], h, _ => by cases h
  | x :: r, y :: q, h, e => by
    have hx := x.toNat_lt
    have hy := y.toNat_lt
    simp only [beN] at e
    have h1 : x.toNat = y.toNat := by omega
    have h2 : beN r = beN q := by omega
    rw [UInt8.toNat_inj.1 h1, beN_inj r q (by simpa using h) h2]
theorem beN_mod : ∀ (l : List UInt8) (n : Nat), (∀ i (h : i < l.length), (l[i]).toNat = digN n i) → beN l = n % 256 ^ l.length
  | [], n, _ => by rw [List.length_nil, Nat.pow_zero, Nat.mod_one]; rfl
  | x :: r, n, h => by
    have h0 := h 0 (by simp)
    rw [List.getElem_cons_zero, digN_eq, Nat.pow_zero, Nat.div_one] at h0
    have ih := beN_mod r (n / 256) fun i hi => by
      have := h (i + 1) (by simpa using hi)
      rw [List.getElem_cons_succ] at this
      rw [this, digN_eq, digN_eq, Nat.pow_succ, Nat.mul_comm, ← Nat.div_div_eq_div_mul]
    rw [beN, ih, List.length_cons, Nat.pow_succ, Nat.mul_comm (256 ^ r.length) 256, Nat.mod_mul, h0]
theorem numN_cons (c : UInt8) (r : List UInt8) : numN (c :: r) = numN r + 256 ^ r.length * c.toNat := by
  unfold numN
  rw [List.reverse_cons, beN_app, List.length_reverse]
  simp [beN]
theorem numN_lt (l : List UInt8) : numN l < 256 ^ l.length := by
  unfold numN
  have := beN_lt l.reverse
  rwa [List.length_reverse] at this
theorem numN_drop0 : ∀ l : List UInt8, numN (l.dropWhile fun b => b == 0) = numN l
  | [] => rfl
  | x :: r => by
    rw [List.dropWhile_cons]
    split
    · rename_i h
      have h : x = 0 := by simpa using h
      rw [numN_drop0 r, numN_cons, h]; simp
    · rfl
theorem dropWhile_head : ∀ l : List UInt8, ((l.dropWhile fun b => b == 0).headD 1) ≠ 0
  | [] => by decide
  | x :: r => by
    rw [List.dropWhile_cons]
    split
    · exact dropWhile_head r
    · rename_i h; simpa using h
theorem numN_wbytes (w : W) : numN (wbytes w) = w.num := by
  have hl : (wbytes w).reverse.length = 32 := by rw [List.length_reverse, wbytes_len]
  unfold numN
  rw [beN_mod (wbytes w).reverse w.num fun i hi => ?_, hl]
  · exact Nat.mod_eq_of_lt (Nat.lt_of_lt_of_eq (W.num_lt w) (by decide))
  · rw [hl] at hi
    have h := wbytes_at w (j := 31 - i) (by omega)
    rw [show 31 - (31 - i) = i by omega] at h
    have h2 : (wbytes w).reverse[i]? = some (UInt8.ofNat (digN w.num i)) := by
      rw [List.getElem?_reverse (by rw [wbytes_len]; exact hi), wbytes_len, show 32 - 1 - i = 31 - i by omega, h]
    have h3 := (List.getElem?_eq_some_iff.1 h2).2
    rw [h3, UInt8.toNat_ofNat', Nat.mod_eq_of_lt (digN_lt _ _)]
theorem numL_num (w : W) : numN (numL w) = w.num := by unfold numL; rw [numN_drop0, numN_wbytes]
theorem numL_head (w : W) : (numL w).headD 1 ≠ 0 := by unfold numL; exact dropWhile_head _
theorem numN_ge {l : List UInt8} (h : l.headD 1 ≠ 0) (h0 : l ≠ []) : 256 ^ (l.length - 1) ≤ numN l := by
  cases l with
  | nil => exact absurd rfl h0
  | cons c r =>
    rw [numN_cons, List.length_cons, Nat.add_sub_cancel]
    have hc : 1 ≤ c.toNat := by
      rcases Nat.eq_zero_or_pos c.toNat with h1 | h1
      · exact absurd (UInt8.toNat_inj.1 h1) h
      · exact h1
    have := Nat.mul_le_mul_left (256 ^ r.length) hc
    omega
theorem numN_len {a b : List UInt8} (ha : a.headD 1 ≠ 0) (hb : numN a ≤ numN b) : a.length ≤ b.length := by
  rcases Nat.lt_or_ge b.length a.length with h | h
  · exfalso
    have h0 : a ≠ [] := fun h0 => by rw [h0] at h; simp at h
    have h1 := numN_ge ha h0
    have h2 := numN_lt b
    have h3 : 256 ^ b.length ≤ 256 ^ (a.length - 1) := Nat.pow_le_pow_right (by decide) (by omega)
    omega
  · exact h
theorem numN_inj {a b : List UInt8} (ha : a.headD 1 ≠ 0) (hb : b.headD 1 ≠ 0) (h : numN a = numN b) : a = b := by
  have h1 := numN_len ha (Nat.le_of_eq h)
  have h2 := numN_len hb (Nat.le_of_eq h.symm)
  have h3 := beN_inj a.reverse b.reverse (by rw [List.length_reverse, List.length_reverse]; omega) h
  rw [← List.reverse_reverse a, h3, List.reverse_reverse]
theorem W.ofInt_num (n : Nat) (h : n < 18446744073709551616) : (W.ofInt (n : Int)).num = n := by
  unfold W.ofInt
  rw [if_pos (by omega)]
  show (n : Int).toNat % 18446744073709551616 + 18446744073709551616 * (0 + 18446744073709551616 * (0 + 18446744073709551616 * 0)) = n
  rw [Int.toNat_natCast, Nat.mod_eq_of_lt h]
  simp
noncomputable def lenL (n : Nat) : List UInt8 := numL (W.ofInt (n : Int))
theorem lenL_num {n : Nat} (h : n < 18446744073709551616) : numN (lenL n) = n := by unfold lenL; rw [numL_num, W.ofInt_num n h]
theorem lenL_head (n : Nat) : (lenL n).headD 1 ≠ 0 := numL_head _
theorem lenL_ne {n : Nat} (h : n < 18446744073709551616) (h0 : 0 < n) : lenL n ≠ [] := fun h1 => by
  have := lenL_num h
  rw [h1] at this
  have h2 : numN [] = 0 := rfl
  omega
theorem lenL_len {n : Nat} (h : n < 18446744073709551616) : (lenL n).length ≤ 8 := by
  rcases Nat.lt_or_ge 8 (lenL n).length with h1 | h1
  · exfalso
    have h0 : lenL n ≠ [] := fun h0 => by rw [h0] at h1; simp at h1
    have h2 := numN_ge (lenL_head n) h0
    rw [lenL_num h] at h2
    have h3 : 256 ^ 8 ≤ 256 ^ ((lenL n).length - 1) := Nat.pow_le_pow_right (by decide) (by omega)
    have h4 : (256 : Nat) ^ 8 = 18446744073709551616 := by decide
    omega
  · exact h1
theorem headL_le {k n : Nat} (h : n ≤ 55) : headL k n = [UInt8.ofNat (k + n)] := by unfold headL; rw [if_pos h]
theorem headL_gt {k n : Nat} (h : ¬ n ≤ 55) : headL k n = UInt8.ofNat (k + 55 + (lenL n).length) :: lenL n := by unfold headL; rw [if_neg h]; rfl
end Go.Ev
set_option linter.unusedSimpArgs false
set_option linter.unusedVariables false
namespace Go.Ev
theorem ncatB (x y : List UInt8) (h : x.length + y.length ≤ 9223372036854775807) : catB (bs x) (bs y) = some (.string (bs (x ++ y))) := by
  unfold catB
  rw [bs_size, bs_size, bs_append, if_neg]
  show ¬ ((x.length + y.length : Nat) : Int) > (9223372036854775807 : Int)
  omega
theorem nbs_idx {l : List UInt8} {i : Nat} (h : i < l.length) : (bs l).data[i]? = some l[i] := by
  show l.toArray[i]? = _
  rw [List.getElem?_toArray, List.getElem?_eq_getElem h]
noncomputable def trimZ : List UInt8 → List UInt8 := hid fun l => l.dropWhile fun b => b == 0
theorem trimZ_eq (l : List UInt8) : trimZ l = l.dropWhile fun b => b == 0 := by unfold trimZ; rw [hid_eq]
theorem trimZ_num (w : W) : trimZ (wbytes w) = numL w := by rw [trimZ_eq]; rfl
theorem dropWhile_le {α : Type} (p : α → Bool) : ∀ l : List α, (l.dropWhile p).length ≤ l.length
  | [] => Nat.le_refl _
  | x :: r => by
    rw [List.dropWhile_cons]
    split
    · exact Nat.le_succ_of_le (dropWhile_le p r)
    · exact Nat.le_refl _
theorem numL_len (w : W) : (numL w).length ≤ 32 := by unfold numL; have := dropWhile_le (fun b : UInt8 => b == 0) (wbytes w); rw [wbytes_len] at this; exact this
noncomputable def rtextG : List Value → Option Value
  | [.string b] => some (.agg #[.bool false, .string b, .slice none 0 0])
  | _ => none
noncomputable def rnumG : List Value → Option Value
  | [x] => (wOf x).bind fun a => some (.agg #[.bool false, .string (bs (numL a)), .slice none 0 0])
  | _ => none
noncomputable def trimZG8 : List Value → Option Value
  | [.string s, .string c] => if c.data.toList = [0] then some (.string (bs (trimZ s.data.toList))) else none
  | _ => none
noncomputable def trimZG1 : List Value → Option Value
  | [.string s, .int .u8 c] => if c = 0 then some (.string (bs (trimZ s.data.toList))) else none
  | _ => none
noncomputable def headK : Int → Int → ByteArray := hid fun k n => bs (headL k.toNat n.toNat)
theorem headK_eq (k n : Nat) : headK (k : Int) (n : Int) = bs (headL k n) := by unfold headK; rw [hid_eq]; rfl
noncomputable def headG : List Value → Option Value
  | [.int .i64 k, .int .i64 n] => if (k = 128 ∨ k = 192) ∧ 0 ≤ n ∧ n ≤ 1099511627776 then some (.string (headK k n)) else none
  | _ => none
def ofNG : List Value → Option Value
  | [.int .i64 n] => if -9223372036854775808 ≤ n ∧ n ≤ 9223372036854775807 then some (W.ofInt n).v else none
  | _ => none
theorem u8_wrapN (m : Nat) : IntKind.u8.wrap (m : Int) = ((UInt8.ofNat m).toNat : Int) := by
  rw [UInt8.toNat_ofNat']
  show ((m : Int)) % 256 = _
  omega
attribute [push_cast] ofNG
attribute [push_cast] rtextG rnumG trimZG8 trimZG1 headG
end Go.Ev
namespace Go.Proofs.YtolmipnaheifcaaGreatDoor
open Go Go.Ev Go.Proofs
set_option maxRecDepth 100000
set_option maxHeartbeats 4000000
theorem trim1z_ok (s : ByteArray) : CallsV Tryz.prog 40 [.string s, .int .u8 0] [] (Ret0 (.string (bs (trimZ s.data.toList)))) := by
  obtain ⟨l, rfl⟩ := bs_of s
  rw [bs_data]
  obtain ⟨R, hR⟩ : ∃ R, R = trimZ l := ⟨_, rfl⟩
  rw [← hR]
  refine callsO (noG_ok _) Tryz.mix Tryz.pl40 Tryz.func40 rfl Tryz.ntmps40 Tryz.results40 rfl (by first | rfl | assumption) (Nat.le_of_ble_eq_true rfl) (by kernel_rfl) ?_
  simp only [push_cast, seval, reduceCtorEq]
  refine loopO (noG_ok _) (pl := Tryz.pl40) Tryz.mix (X := List UInt8)
    (fun x => ([(0, .string (bs x)), (1, .int .u8 0)], []))
    (fun x => trimZ x = R) (fun x => x.length) l ?_ ?_ (by kernel_rfl) ?_
  · exact hR.symm
  · simp only [push_cast, seval, reduceCtorEq]
  · intro x hx
    dsimp only at hx ⊢
    cases x with
    | nil =>
      have e : R = [] := by rw [← hx, trimZ_eq]; rfl
      simp only [push_cast, seval, reduceCtorEq, List.length_nil, e]
    | cons y r =>
      obtain ⟨z, hz⟩ : ∃ z, z = y :: r := ⟨_, rfl⟩
      have zl : z.length = r.length + 1 := by rw [hz]; rfl
      have c1 : (0 : Int) < (z.length : Int) := by omega
      have c2 : 0 < z.length := by omega
      have c3 : 1 ≤ z.length := by omega
      have c4 : (1 : Int) ≤ (z.length : Int) := by omega
      have b0 : (bs z).data[0]? = some y := by rw [nbs_idx c2]; subst hz; rfl
      have dr : List.take (z.length - 1) (List.drop 1 z) = r := by rw [hz]; show List.take (r.length + 1 - 1) r = r; exact List.take_of_length_le (by omega)
      rw [← hz] at hx ⊢
      by_cases hy : y = 0
      · have e : ((y.toNat : Int) == 0) = true := by rw [hy]; rfl
        have hx' : trimZ r = R := by rw [← hx, hz, trimZ_eq, trimZ_eq, List.dropWhile_cons, if_pos (by rw [hy]; rfl)]
        simp only [push_cast, seval, reduceCtorEq, c1, c2, c3, c4, b0, e, dr]
        exact ⟨r, hx', by omega, rfl⟩
      · have e : ((y.toNat : Int) == 0) = false := beq_eq_false_iff_ne.2 fun h => hy (UInt8.toNat_inj.1 (show y.toNat = 0 by omega))
        have hx' : z = R := by rw [← hx, hz, trimZ_eq, List.dropWhile_cons, if_neg (by simpa using hy)]
        simp only [push_cast, seval, reduceCtorEq, c1, c2, c3, b0, e]
        rw [hx']
theorem trim1zG_ok (args : List Value) (v : Value) (h : trimZG1 args = some v) : CallsV Tryz.prog 40 args [] (Ret0 v) := by
  unfold trimZG1 at h
  split at h
  · split at h
    · rename_i hc; cases h; rw [hc]; exact trim1z_ok _
    · cases h
  · cases h
noncomputable def gN0 : Gam := (addG 25 wbytesG (addG 40 trimZG1 noG))
attribute [push_cast] gN0
theorem gN0_ok : GamOk Tryz.prog gN0 := (addG_ok wordBytesG (addG_ok trim1zG_ok (noG_ok _)))
attribute [push_cast] gN0
theorem trimz_ok (s : ByteArray) : CallsV Tryz.prog 24 [.string s, .string (bs [0])] [] (Ret0 (.string (bs (trimZ s.data.toList)))) := by
  obtain ⟨l, rfl⟩ := bs_of s
  rw [bs_data]
  have b0 : (bs [0]).data[0]? = some 0 := rfl
  have e0 : (bs [0]).toList = [0] := bs_toList _
  have e1 : ByteArray.toList { data := #[] } = [] := bs_toList []
  have e2 : ([0] : List UInt8).length = 1 := rfl
  have e3 : ((0 : UInt8).toNat : Int) = 0 := rfl
  have e4 : ([0] == ([] : List UInt8)) = false := rfl
  refine callsO gN0_ok Tryz.mix Tryz.pl24 Tryz.func24 rfl Tryz.ntmps24 Tryz.results24 rfl (by first | rfl | assumption) (Nat.le_of_ble_eq_true rfl) (by kernel_rfl) ?_
  cases l with
  | nil =>
    have e5 : (([] : List UInt8) == []) = true := rfl
    have e6 : trimZ [] = [] := by rw [trimZ_eq]; rfl
    simp only [push_cast, seval, reduceCtorEq, e1, e5, e6]
    try rfl
  | cons y r =>
    obtain ⟨z, hz⟩ : ∃ z, z = y :: r := ⟨_, rfl⟩
    have e5 : (z == []) = false := by rw [hz]; rfl
    rw [← hz]
    simp only [push_cast, seval, reduceCtorEq, e1, e2, e3, e4, e5, b0]
theorem trimzG_ok (args : List Value) (v : Value) (h : trimZG8 args = some v) : CallsV Tryz.prog 24 args [] (Ret0 v) := by
  unfold trimZG8 at h
  split at h
  · split at h
    · rename_i s c hc
      cases h
      have : c = bs [0] := by
        obtain ⟨m, rfl⟩ := bs_of c
        rw [bs_data] at hc
        rw [hc]
      rw [this]; exact trimz_ok _
    · cases h
  · cases h
theorem rtext_ok (b : ByteArray) : CallsV Tryz.prog 7 [.string b] [] (Ret0 (.agg #[.bool false, .string b, .slice none 0 0])) := by
  refine callsO gN0_ok Tryz.mix Tryz.pl7 Tryz.func7 rfl Tryz.ntmps7 Tryz.results7 rfl (by first | rfl | assumption) (Nat.le_of_ble_eq_true rfl) (by kernel_rfl) ?_
  simp only [push_cast, seval, reduceCtorEq]
  trace_state
theorem rtextG_ok (args : List Value) (v : Value) (h : rtextG args = some v) : CallsV Tryz.prog 7 args [] (Ret0 v) := by
  unfold rtextG at h
  split at h
  · cases h; exact rtext_ok _
  · cases h
noncomputable def gN1 : Gam := (addG 7 rtextG (addG 24 trimZG8 gN0))
attribute [push_cast] gN1
theorem gN1_ok : GamOk Tryz.prog gN1 := (addG_ok rtextG_ok (addG_ok trimzG_ok gN0_ok))
attribute [push_cast] gN1
theorem rnum_ok (w : W) : CallsV Tryz.prog 8 [w.v] [] (Ret0 (.agg #[.bool false, .string (bs (numL w)), .slice none 0 0])) := by
  have hz := trimZ_num w
  have hd : (bs [0]).data.toList = [0] := bs_data _
  refine callsO gN1_ok Tryz.mix Tryz.pl8 Tryz.func8 rfl Tryz.ntmps8 Tryz.results8 rfl (by first | rfl | assumption) (Nat.le_of_ble_eq_true rfl) (by kernel_rfl) ?_
  simp only [push_cast, seval, reduceCtorEq]
  intro b1 b2 hb2
  simp only [push_cast, seval, reduceCtorEq, hb2, bs_mk, hd, hz]
theorem rnumG_ok (args : List Value) (v : Value) (h : rnumG args = some v) : CallsV Tryz.prog 8 args [] (Ret0 v) := by
  unfold rnumG at h
  split at h
  · rename_i x
    cases hx : wOf x with
    | none => simp [hx] at h
    | some a => simp only [hx, Option.bind_some, Option.some.injEq] at h; rw [wOf_some hx, ← h]; exact rnum_ok a
  · cases h
theorem wordOfNG (args : List Value) (v : Value) (h : ofNG args = some v) : CallsV Tryz.prog 70 args [] (Ret0 v) := by
  unfold ofNG at h
  split at h
  · split at h
    · rename_i n hn; cases h; exact wordOf n hn
    · cases h
  · cases h
noncomputable def gN2 : Gam := (addG 70 ofNG (addG 8 rnumG gN1))
attribute [push_cast] gN2
theorem gN2_ok : GamOk Tryz.prog gN2 := (addG_ok wordOfNG (addG_ok rnumG_ok gN1_ok))
attribute [push_cast] gN2
theorem head_ok (k n : Nat) (hk : k = 128 ∨ k = 192) (hn : n ≤ 1099511627776) : CallsV Tryz.prog 48 [.int .i64 k, .int .i64 n] [] (Ret0 (.string (headK k n))) := by
  rw [headK_eq]
  obtain ⟨R, hR⟩ : ∃ R, R = headL k n := ⟨_, rfl⟩
  rw [← hR]
  unfold headL at hR
  have w0 : IntKind.i64.wrap ((k : Int) + (n : Int)) = ((k + n : Nat) : Int) := by rw [Int.natCast_add]; exact IntWalk.i64_in _ (by omega)
  by_cases hc : n ≤ 55
  · rw [if_pos hc] at hR
    have c1 : (n : Int) ≤ 55 := by omega
    have w1 := u8_wrapN (k + n)
    have hb : bytesOf [.int .u8 ((UInt8.ofNat (k + n)).toNat : Int)] = some [UInt8.ofNat (k + n)] := bytesOf_byteV [UInt8.ofNat (k + n)]
    obtain ⟨c, hc'⟩ : ∃ c, c = UInt8.ofNat (k + n) := ⟨_, rfl⟩
    rw [← hc'] at w1 hb hR
    obtain ⟨m, hm⟩ : ∃ m, m = k + n := ⟨_, rfl⟩
    rw [← hm] at w0 w1
    refine callsO gN2_ok Tryz.mix Tryz.pl48 Tryz.func48 rfl Tryz.ntmps48 Tryz.results48 rfl (by first | rfl | assumption) (Nat.le_of_ble_eq_true rfl) (by kernel_rfl) ?_
    simp only [push_cast, seval, reduceCtorEq, c1, w0, w1, hb]
    rw [hR]; rfl
  · rw [if_neg hc] at hR
    have c1 : ¬ (n : Int) ≤ 55 := by omega
    have nl := numL_len (W.ofInt (n : Int))
    obtain ⟨D, hD⟩ : ∃ D, D = numL (W.ofInt (n : Int)) := ⟨_, rfl⟩
    rw [← hD] at hR nl
    obtain ⟨w, hw⟩ : ∃ w, w = W.ofInt (n : Int) := ⟨_, rfl⟩
    rw [← hw] at hD
    have w1 := u8_wrapN (k + 55 + D.length)
    have hb : bytesOf [.int .u8 ((UInt8.ofNat (k + 55 + D.length)).toNat : Int)] = some [UInt8.ofNat (k + 55 + D.length)] := bytesOf_byteV [UInt8.ofNat (k + 55 + D.length)]
    obtain ⟨c, hc'⟩ : ∃ c, c = UInt8.ofNat (k + 55 + D.length) := ⟨_, rfl⟩
    rw [← hc'] at w1 hb hR
    have w2 : IntKind.i64.wrap ((k : Int) + 55) = (k : Int) + 55 := IntWalk.i64_in _ (by omega)
    have w3 : IntKind.i64.wrap ((k : Int) + 55 + (D.length : Int)) = ((k + 55 + D.length : Nat) : Int) := by
      rw [show (k : Int) + 55 + (D.length : Int) = ((k + 55 + D.length : Nat) : Int) by omega]; exact IntWalk.i64_in _ (by omega)
    obtain ⟨m, hm⟩ : ∃ m, m = k + 55 + D.length := ⟨_, rfl⟩
    rw [← hm] at w1 w3
    have n1 : -9223372036854775808 ≤ (n : Int) := by omega
    have n2 : (n : Int) ≤ 9223372036854775807 := by omega
    have hcat : catB (bs [c]) (bs D) = some (.string (bs R)) := by rw [ncatB [c] D (by show 1 + _ ≤ _; omega), hR]; rfl
    refine callsO gN2_ok Tryz.mix Tryz.pl48 Tryz.func48 rfl Tryz.ntmps48 Tryz.results48 rfl (by first | rfl | assumption) (Nat.le_of_ble_eq_true rfl) (by kernel_rfl) ?_
    simp only [push_cast, seval, reduceCtorEq, c1, n1, n2, ← hw, ← hD, w1, w2, w3, hb, bs_mk, hcat]
theorem headG_ok (args : List Value) (v : Value) (h : headG args = some v) : CallsV Tryz.prog 48 args [] (Ret0 v) := by
  unfold headG at h
  split at h
  · rename_i k n
    split at h
    · rename_i hc
      obtain ⟨h1, h2, h3⟩ := hc
      cases h
      obtain ⟨k', rfl⟩ : ∃ k' : Nat, k = (k' : Int) := ⟨k.toNat, by omega⟩
      obtain ⟨n', rfl⟩ : ∃ n' : Nat, n = (n' : Int) := ⟨n.toNat, by omega⟩
      exact head_ok k' n' (by omega) (by omega)
    · cases h
  · cases h
noncomputable def gN3 : Gam := (addG 48 headG gN2)
attribute [push_cast] gN3
theorem gN3_ok : GamOk Tryz.prog gN3 := (addG_ok headG_ok gN2_ok)
attribute [push_cast] gN3
end Go.Proofs.YtolmipnaheifcaaGreatDoor
set_option linter.unusedSimpArgs false
set_option linter.unusedVariables false
namespace Go.Ev
structure Sl where
  key : W
  val : W
def Sl.cells (x : Sl) : List Value := x.key.cells ++ x.val.cells
def Sl.v (x : Sl) : Value := .agg x.cells.toArray
theorem Sl.len (x : Sl) : x.cells.length = 8 := rfl
theorem Sl.take8 (x : Sl) : List.take 8 x.cells = x.cells := rfl
theorem Sl.key0 (x : Sl) : List.take 4 x.cells = x.key.cells := rfl
theorem Sl.val4 (x : Sl) : List.take 4 (List.drop 4 x.cells) = x.val.cells := rfl
theorem Sl.all1 (x : Sl) : x.cells.all oneC = true := rfl
theorem Sl.eta (x : Sl) : x.key.cells ++ x.val.cells = x.cells := rfl
theorem Sl.drop8 (x : Sl) (l : List Value) : List.drop 8 (x.cells ++ l) = l := rfl
theorem Sl.drop8' (x : Sl) : List.drop 8 x.cells = [] := rfl
theorem Sl.agg (x : Sl) : Value.agg x.cells.toArray = x.v := rfl
theorem Sl.v_cells (x : Sl) : x.v.cells = x.cells.toArray := rfl
instance : DecidableEq Sl := fun x y => if h : x.key = y.key ∧ x.val = y.val then .isTrue (by cases x; cases y; cases h.1; cases h.2; rfl) else .isFalse fun e => h (by rw [e]; exact ⟨rfl, rfl⟩)
def slC (l : List Sl) : List Value := l.flatMap Sl.cells
theorem slC_one (x : Sl) : slC [x] = x.cells := by simp [slC]
theorem subH_skip {e : Ent} : ∀ {L H : Hp}, fresh e.blk H → (subH (e :: L) H) = (subH L H)
  | _, [], _ => rfl
  | L, f :: r, h => by
    simp only [subH, findE, remE]
    rw [if_neg h.2.1, if_neg h.2.1, subH_skip h.2.2]
attribute [push_cast] slC_one Sl.eta Sl.all1 Sl.drop8 Sl.drop8' Sl.len Sl.take8 Sl.key0 Sl.val4 Sl.agg Sl.v_cells subH_self subH_skip
end Go.Ev
namespace Go.Proofs.YtolmipnaheifcaaGreatDoor
open Go Go.Ev Go.Proofs
set_option maxRecDepth 100000
set_option maxHeartbeats 4000000
end Go.Proofs.YtolmipnaheifcaaGreatDoor
set_option linter.unusedSimpArgs false
set_option linter.unusedVariables false
namespace Go.Ev
end Go.Ev
namespace Go.Proofs.YtolmipnaheifcaaGreatDoor
open Go Go.Ev Go.Proofs
set_option maxRecDepth 100000
set_option maxHeartbeats 4000000
end Go.Proofs.YtolmipnaheifcaaGreatDoor
set_option linter.unusedSimpArgs false
set_option linter.unusedVariables false
namespace Go.Ev
theorem W.zero_agg : Value.agg #[.int .u64 0, .int .u64 0, .int .u64 0, .int .u64 0] = W.zero.v := rfl
theorem W.ext_iff' {x y : W} : x = y ↔ x.a = y.a ∧ x.b = y.b ∧ x.c = y.c ∧ x.d = y.d := ⟨fun h => by subst h; exact ⟨rfl, rfl, rfl, rfl⟩, fun h => W.eq h.1 h.2.1 h.2.2.1 h.2.2.2⟩
theorem W.eqC (x y : W) : eqC [.i, .i, .i, .i] x.cells y.cells = some (decide (x = y)) := by
  simp only [W.cells, Go.Ev.eqC, if_true, Option.map_some, Option.some.injEq, Bool.and_true]
  rw [Bool.eq_iff_iff]
  simp only [Bool.and_eq_true, beq_iff_eq, decide_eq_true_eq, W.ext_iff', Int.ofNat_inj]
theorem W.eqV {P : Program} {t : TypeId} (x y : W) (h1 : tyI P t = some (4, true)) (h2 : P.eqGuardType P.depth t = false) (h3 : flatK P 12 t = some [.i, .i, .i, .i]) : eqV P t x.v y.v = some (decide (x = y)) := by
  unfold W.v Go.Ev.eqV
  simp only [h1, h2, h3, Option.bind_some, Bool.false_eq_true, if_false, List.toList_toArray, W.eqC]
theorem W.eql {P : Program} {t : TypeId} (x y : W) (h1 : tyI P t = some (4, true)) (h2 : P.eqGuardType P.depth t = false) (h3 : flatK P 12 t = some [.i, .i, .i, .i]) : binQ P .eql t x.v y.v = some (.bool (decide (x = y))) := by
  have := W.eqV x y h1 h2 h3
  unfold W.v at this ⊢
  simp only [binQ, this, Option.map_some]
theorem W.neq {P : Program} {t : TypeId} (x y : W) (h1 : tyI P t = some (4, true)) (h2 : P.eqGuardType P.depth t = false) (h3 : flatK P 12 t = some [.i, .i, .i, .i]) : binQ P .neq t x.v y.v = some (.bool (!decide (x = y))) := by
  have := W.eqV x y h1 h2 h3
  unfold W.v at this ⊢
  simp only [binQ, this, Option.map_some]
theorem Sl.eqC (x y : Sl) : Go.Ev.eqC [.i, .i, .i, .i, .i, .i, .i, .i] x.cells y.cells = some (decide (x = y)) := by
  simp only [Sl.cells, W.cells, List.cons_append, List.nil_append, Go.Ev.eqC, if_true, Option.map_some, Option.some.injEq, Bool.and_true]
  rw [Bool.eq_iff_iff]
  obtain ⟨xk, xv⟩ := x; obtain ⟨yk, yv⟩ := y
  simp only [Bool.and_eq_true, beq_iff_eq, decide_eq_true_eq, Sl.mk.injEq, W.ext_iff', Int.ofNat_inj]
  constructor
  · rintro ⟨a, b, c, d, e, f, g, h⟩; exact ⟨⟨a, b, c, d⟩, e, f, g, h⟩
  · rintro ⟨⟨a, b, c, d⟩, e, f, g, h⟩; exact ⟨a, b, c, d, e, f, g, h⟩
theorem Sl.eqV {P : Program} {t : TypeId} (x y : Sl) (h1 : tyI P t = some (8, true)) (h2 : P.eqGuardType P.depth t = false) (h3 : flatK P 12 t = some [.i, .i, .i, .i, .i, .i, .i, .i]) : Go.Ev.eqV P t x.v y.v = some (decide (x = y)) := by
  unfold Sl.v Go.Ev.eqV
  simp only [h1, h2, h3, Option.bind_some, Bool.false_eq_true, if_false, List.toList_toArray, Sl.eqC]
theorem Sl.neq {P : Program} {t : TypeId} (x y : Sl) (h1 : tyI P t = some (8, true)) (h2 : P.eqGuardType P.depth t = false) (h3 : flatK P 12 t = some [.i, .i, .i, .i, .i, .i, .i, .i]) : binQ P .neq t x.v y.v = some (.bool (!decide (x = y))) := by
  have := Sl.eqV x y h1 h2 h3
  unfold Sl.v at this ⊢
  simp only [binQ, this, Option.map_some]
attribute [push_cast high] W.zero_agg W.eql W.neq Sl.neq
end Go.Ev
namespace Go.Proofs.YtolmipnaheifcaaGreatDoor
open Go Go.Ev Go.Proofs
set_option maxRecDepth 100000
set_option maxHeartbeats 4000000
end Go.Proofs.YtolmipnaheifcaaGreatDoor
set_option linter.unusedSimpArgs false
set_option linter.unusedVariables false
namespace Go.Ev
structure Bo where
  key : W
  a : W
  b : W
  inB : Bool
def Bo.cells (x : Bo) : List Value := x.key.cells ++ (x.a.cells ++ (x.b.cells ++ [.bool x.inB]))
def Bo.v (x : Bo) : Value := .agg x.cells.toArray
theorem findE_appT {b : Nat} {e : Ent} {B : Hp} : ∀ {A : Hp}, findE A b = some e → findE (A ++ B) b = some e
  | [], h => by simp [findE] at h
  | x :: r, h => by
    simp only [findE, List.cons_append] at h ⊢
    split
    · rename_i hx; rw [if_pos hx] at h; exact h
    · rename_i hx; rw [if_neg hx] at h; exact findE_appT h
theorem YieldV.frame2 {P : Program} {l : Nat} {args : List Value} {A H : Hp} {e : Ent} {K K' : Value → Hp → Prop} (hy : YieldV P l args H K) (hro : ∀ v H', K v H' → ∀ e ∈ H', e.wr ∨ e ∈ H) (hm : marksOf [e] = [])
    (hk : ∀ v H', K v H' → K' v (A ++ (H' ++ [e]))) : YieldV P l args (e :: (A ++ H)) K' := by
  have h := hy.frame (A := e :: A) (K' := fun v H'' => ∃ H', K v H' ∧ H'' = (e :: A) ++ H') hro (fun v H' h => ⟨H', h, rfl⟩)
  intro w0 mu w hs
  obtain ⟨fn, tmps, assign, body, h1, h2⟩ := h w0 mu w hs
  refine ⟨fn, tmps, assign, body, h1, h2.mono ?_⟩
  rintro e' w' ⟨v, _, rfl, ⟨H', hK, rfl⟩, hs', hm'⟩
  have hp : ((e :: A) ++ H').Perm (A ++ (H' ++ [e])) := by rw [← List.append_assoc]; exact (List.perm_append_singleton e (A ++ H')).symm
  refine ⟨v, _, rfl, hk v H' hK, hs'.perm hp, ?_⟩
  have e1 : ∀ L : Hp, marksOf (e :: (A ++ L)) = marksOf (A ++ L) := fun L => by
    rw [show e :: (A ++ L) = [e] ++ (A ++ L) from rfl, marks_append, hm]; rfl
  rw [← List.append_assoc, marks_append, hm, List.append_nil]
  have h3 : marksOf (e :: (A ++ H')) = marksOf (e :: (A ++ H)) := hm'
  rw [e1, e1] at h3
  rw [e1]
  exact h3
end Go.Ev
namespace Go.Proofs.YtolmipnaheifcaaGreatDoor
open Go Go.Ev Go.Proofs
set_option maxRecDepth 100000
set_option maxHeartbeats 4000000
end Go.Proofs.YtolmipnaheifcaaGreatDoor
