/- Texts of this claim, merged by program: Mf Mg Sa Sb Sf Sg Sc Na. -/
import Derived.Test.YtpcjmmdgopihcaaGreatDoorZgAp
import Derived.Test.YtpcjmmdgopihcaaGreatDoorZgAe
import Derived.Test.YtpcjmmdgopihcaaGreatDoorZgAc
import Derived.Laws.Strings
import Derived.Laws.Strings2
import Derived.Lib.Repeat
set_option linter.unusedSimpArgs false
set_option linter.unusedVariables false
set_option maxRecDepth 100000
set_option maxHeartbeats 4000000
namespace Go.Ev
theorem rcR_8 : ∀ t, ∃ x0 x1 x2 x3 x4 x5 x6 x7 : Nat, rcR t = [x0, x1, x2, x3, x4, x5, x6, x7] ∧ x0 < 2 ∧ x1 < 2 ∧ x2 < 2 ∧ x3 < 2 ∧ x4 < 2 ∧ x5 < 2 ∧ x6 < 2 ∧ x7 < 2
 | 0 => ⟨1, 0, 0, 0, 0, 0, 0, 0, rfl, by decide, by decide, by decide, by decide, by decide, by decide, by decide, by decide⟩
 | t + 1 => by
   obtain ⟨x0, x1, x2, x3, x4, x5, x6, x7, h, h0, h1, h2, h3, h4, h5, h6, h7⟩ := rcR_8 t
   refine ⟨x7 % 2, x0, x1, x2, (x3 + x7) % 2, (x4 + x7) % 2, (x5 + x7) % 2, x6, ?_, by omega, h0, h1, h2, by omega, by omega, by omega, h6⟩
   show rcN (rcR t) = _
   rw [h]; rfl
theorem subH_rot2 {e : Ent} {X : Hp} : ∀ {N : Hp}, fresh e.blk N → subH (e :: (N ++ X)) (N ++ [e])
 | [], _ => by
   refine ⟨by simp [findE], ?_⟩
   exact trivial
 | x :: r, h => by
   have h1 : ¬ x.blk = e.blk := h.2.1
   refine ⟨by simp [findE, h1], ?_⟩
   have : remE (e :: x :: (r ++ X)) x.blk = e :: (r ++ X) := by simp [remE, h1]
   rw [List.cons_append, this]
   exact subH_rot2 h.2.2
noncomputable def hvN : Nat → Nat → Nat := hid fun x z => x / 2 ^ z
theorem hvN_eq (x z : Nat) : hvN x z = x / 2 ^ z := by unfold hvN; rw [hid_eq]
theorem hvN_0 (x : Nat) : hvN x 0 = x := by rw [hvN_eq, Nat.pow_zero, Nat.div_one]
theorem hvN_64 {x : Nat} (h : x < 18446744073709551616) : hvN x 64 = 0 := by rw [hvN_eq]; exact hv_64 h
theorem hvN_t (x z : Nat) : hvN x (z + 1) = hvN x z / 2 := by rw [hvN_eq, hvN_eq, hv_t]
theorem hvN_s (x z : Nat) : hvN x z = 2 * hvN x (z + 1) + bt x z := by rw [hvN_eq, hvN_eq]; exact hv_s x z
theorem hvN_bt (x z : Nat) : bt x z = hvN x z % 2 := by rw [hvN_eq]; rfl
theorem hvN_le (x z : Nat) : hvN x z ≤ x := by rw [hvN_eq]; exact Nat.div_le_self _ _
end Go.Ev
namespace Go.Proofs.YtpcjmmdgopihcaaGreatDoor
open Go Go.Ev Go.Proofs
theorem drcs_ok : CallsV Tryz.prog 136 [.int .i64 168] [] (OutC 3 1 (nC rcV) 168) := by
 refine callsO gM0_ok Tryz.mix Tryz.pl136 Tryz.func136 rfl Tryz.ntmps136 Tryz.results136 rfl (by first | rfl | assumption) (Nat.le_of_ble_eq_true rfl) (by kernel_rfl) ?_
 simp only [push_cast, seval, reduceCtorEq]
 intro b1
 refine loopO gM0_ok (pl := Tryz.pl136) Tryz.mix (X := Nat × Value × Hp × Nat × Nat × List Nat)
  (fun s => ([(0, .int .i64 168), (3, .slice (some ⟨s.2.2.2.1, 0, none⟩) 8 s.2.2.2.2.1), (4, s.2.1), (5, .int .i64 s.1)], s.2.2.1 ++ [⟨s.2.2.2.1, 0, .vec 3 1 s.2.2.2.2.1, nC (rcR s.1 ++ s.2.2.2.2.2)⟩]))
  (fun s => s.1 ≤ 168 ∧ 8 ≤ s.2.2.2.2.1 ∧ OutC 3 1 (nC (rcL s.1)) s.1 s.2.1 s.2.2.1 ∧ freshN s.2.2.1 [⟨s.2.2.2.1, 0, .vec 3 1 s.2.2.2.2.1, nC (rcR s.1 ++ s.2.2.2.2.2)⟩]) (fun s => 168 - s.1) (0, .slice none 0 0, [], b1, 8, []) ?_ ?_ (by kernel_rfl) ?_
 · exact ⟨Nat.zero_le _, Nat.le_refl _, .nil _ _, trivial⟩
 · simp only [push_cast, seval, reduceCtorEq]
   rfl
 · rintro ⟨t, vo, No, br, cr, X⟩ ⟨ht, hcr, ho, hf⟩
   dsimp only at ht hcr ho hf ⊢
   obtain ⟨x0, x1, x2, x3, x4, x5, x6, x7, hR, h0, h1, h2, h3, h4, h5, h6, h7⟩ := rcR_8 t
   have hl1 := rcL_s t
   have hN : rcR (t + 1) = rcN (rcR t) := rfl
   rw [hR] at hl1 hN
   by_cases hc : t < 168
   · have t0 : (t : Int) < 168 := by omega
     obtain ⟨R, hRe⟩ : ∃ e : Ent, e = ⟨br, 0, .vec 3 1 cr, nC (rcR t ++ X)⟩ := ⟨_, rfl⟩
     have hRe2 := hRe
     rw [hR] at hRe
     rw [← hRe2] at hf ⊢
     have fb0 : findE [R] br = some R := by rw [hRe]; simp [findE]
     have fb : findE (No ++ [R]) br = some R := by rw [findE_freshN hf fb0]; exact fb0
     have Rk : R.kind = .vec 3 1 cr := by rw [hRe]
     have Ro : R.off = 0 := by rw [hRe]
     have Rm : marksOf [R] = [] := by rw [hRe]; rfl
     have Rl : 8 ≤ R.cells.length := by rw [hRe]; show 8 ≤ (nC _).length; rw [nC_len, List.length_append]; show 8 ≤ 8 + _; omega
     have Rl1 : 1 ≤ R.cells.length := by omega
     have Rt : List.take 8 R.cells = [.int .i64 (x0 : Nat), .int .i64 (x1 : Nat), .int .i64 (x2 : Nat), .int .i64 (x3 : Nat), .int .i64 (x4 : Nat), .int .i64 (x5 : Nat), .int .i64 (x6 : Nat), .int .i64 (x7 : Nat)] := by rw [hRe]; rfl
     have Rt1 : List.take 1 R.cells = [.int .i64 (x0 : Nat)] := by rw [hRe]; rfl
     simp only [push_cast, seval, reduceCtorEq, t0, fb, Rk, Ro, Rl, Rl1, Rt, Rt1, List.drop_zero]
     intro b10 hb10
     refine append_out1 (e := 3) (sz := 1) (by_ := 8) (n := t) (m := 1) (ys := [.int .i64 (x0 : Nat)]) ho hb10 (by simp only [push_cast, seval, reduceCtorEq]) (by simp only [push_cast, seval, reduceCtorEq]) rfl rfl (by unfold two47; omega) fun v' N' ho' hf' => ?_
     have hfR : freshN N' [R] := freshN_iff.2 fun e he x hx => freshN_iff.1 hf' e he x (List.mem_cons_of_mem _ hx)
     have f10 : fresh b10 [R] := (fresh_app_iff.1 hb10).2
     have fc : findE (⟨b10, 0, .vec 3 1 1, [.int .i64 (x0 : Nat)]⟩ :: [R]) br = some R := by rw [findE, if_neg (fresh_findS f10 fb0).2]; exact fb0
     have fd : findE (N' ++ ⟨b10, 0, .vec 3 1 1, [.int .i64 (x0 : Nat)]⟩ :: [R]) br = some R := by rw [findE_freshN hf' fc]; exact fc
     have Wm : marksOf (N' ++ ⟨b10, 0, .vec 3 1 1, [.int .i64 (x0 : Nat)]⟩ :: [R]) = [] := by rw [marks_append, ho'.wr.2, hRe]; rfl
     obtain ⟨W, hW⟩ : ∃ W, W = N' ++ ⟨b10, 0, .vec 3 1 1, [.int .i64 (x0 : Nat)]⟩ :: [R] := ⟨_, rfl⟩
     rw [← hW] at fd Wm ⊢
     simp only [push_cast, seval, reduceCtorEq, fd, Rk, Ro, Rl, Rt, List.drop_zero]
     intro b11 hb11
     have d11 := (fresh_findS hb11 fd).2
     obtain ⟨y0, hy0⟩ : ∃ y, y = x7 % 2 := ⟨_, rfl⟩
     obtain ⟨y4, hy4⟩ : ∃ y, y = (x3 + x7) % 2 := ⟨_, rfl⟩
     obtain ⟨y5, hy5⟩ : ∃ y, y = (x4 + x7) % 2 := ⟨_, rfl⟩
     obtain ⟨y6, hy6⟩ : ∃ y, y = (x5 + x7) % 2 := ⟨_, rfl⟩
     have m0 : (x7 : Int).tmod 2 = (y0 : Int) := by rw [Int.tmod_eq_emod_of_nonneg (by omega)]; omega
     have m4 : ((x3 : Int) + (x7 : Int)).tmod 2 = (y4 : Int) := by rw [Int.tmod_eq_emod_of_nonneg (by omega)]; omega
     have m5 : ((x4 : Int) + (x7 : Int)).tmod 2 = (y5 : Int) := by rw [Int.tmod_eq_emod_of_nonneg (by omega)]; omega
     have m6 : ((x5 : Int) + (x7 : Int)).tmod 2 = (y6 : Int) := by rw [Int.tmod_eq_emod_of_nonneg (by omega)]; omega
     simp only [push_cast, seval, reduceCtorEq, fd, d11, Rk, Ro, Rl, Rt, List.drop_zero]
     refine ⟨by unfold two47; decide, fun b12 c12 hb12 hc12 => ?_⟩
     have d12 := (fresh_findS hb12 fd).2
     have c8 : (8 : Int) ≤ (c12 : Int) := by omega
     have c8n : 8 ≤ c12 := by omega
     simp only [push_cast, seval, reduceCtorEq, wrap_i64' (show -9223372036854775808 ≤ (x7 : Int) ∧ (x7 : Int) ≤ 9223372036854775807 by omega), wrap_i64' (show -9223372036854775808 ≤ (x3 : Int) + (x7 : Int) ∧ (x3 : Int) + (x7 : Int) ≤ 9223372036854775807 by omega), wrap_i64' (show -9223372036854775808 ≤ (x4 : Int) + (x7 : Int) ∧ (x4 : Int) + (x7 : Int) ≤ 9223372036854775807 by omega), wrap_i64' (show -9223372036854775808 ≤ (x5 : Int) + (x7 : Int) ∧ (x5 : Int) + (x7 : Int) ≤ 9223372036854775807 by omega), m0, m4, m5, m6, wrap_i64' (show -9223372036854775808 ≤ (y0 : Int) ∧ (y0 : Int) ≤ 9223372036854775807 by omega), wrap_i64' (show -9223372036854775808 ≤ (y4 : Int) ∧ (y4 : Int) ≤ 9223372036854775807 by omega), wrap_i64' (show -9223372036854775808 ≤ (y5 : Int) ∧ (y5 : Int) ≤ 9223372036854775807 by omega), wrap_i64' (show -9223372036854775808 ≤ (y6 : Int) ∧ (y6 : Int) ≤ 9223372036854775807 by omega), c8, c8n, (show ¬ c12 = 0 by omega), wrap_i64' (show -9223372036854775808 ≤ (t : Int) + 1 ∧ (t : Int) + 1 ≤ 9223372036854775807 by omega)]
     have hrow : nC (rcR (t + 1) ++ [x7]) = [.int .i64 (y0 : Nat), .int .i64 (x0 : Nat), .int .i64 (x1 : Nat), .int .i64 (x2 : Nat), .int .i64 (y4 : Nat), .int .i64 (y5 : Nat), .int .i64 (y6 : Nat), .int .i64 (x6 : Nat), .int .i64 (x7 : Nat)] := by
      rw [hN, hy0, hy4, hy5, hy6]; rfl
     have g12 : fresh b12 N' := (fresh_app_iff.1 (hW ▸ hb12)).1
     refine ⟨(t + 1, v', N', b12, c12, [x7]), ⟨hc, c8n, ?_, freshN_sym ⟨g12, trivial⟩⟩, by dsimp only; omega, ⟨rfl, rfl, rfl⟩, ?_, ?_⟩
     · dsimp only
       rw [hl1, nC_app]
       exact ho'
     · dsimp only
       rw [hrow, hW]
       exact subH_rot2 g12
     · dsimp only
       rw [marks_append, ho'.wr.2, Wm]; rfl
   · obtain rfl : t = 168 := by omega
     rw [rcV_eq] at ho
     simp only [push_cast, seval, reduceCtorEq]
     refine ⟨No, ?_, ho⟩
     rw [dropM_eq (by rw [marks_append, ho.wr.2]; rfl)]
     exact List.sublist_append_left _ _
theorem dbits_ok {A : List Nat} (hA : Ln 25 A) : CallsV Tryz.prog 135 [.agg (lnC A).toArray] [] (OutC 3 1 (nC (tab 1600 (lb A))) 1600) := by
 have l2 := hA.cl
 refine callsO gM0_ok Tryz.mix Tryz.pl135 Tryz.func135 rfl Tryz.ntmps135 Tryz.results135 rfl (by first | rfl | assumption) (Nat.le_of_ble_eq_true rfl) (by kernel_rfl) ?_
 simp only [push_cast, seval, reduceCtorEq]
 intro b1 
 obtain ⟨E, hE⟩ : ∃ e : Ent, e = ⟨b1, 0, .cel 114, lnC A⟩ := ⟨_, rfl⟩
 have fb0 : findE [E] b1 = some E := by rw [hE]; simp [findE]
 have Ek : E.kind = .cel 114 := by rw [hE]
 have Eo : E.off = 0 := by rw [hE]
 have Em : marksOf [E] = [] := by rw [hE]; rfl
 have El : E.cells.length = 25 := by rw [hE]; exact hA.cl
 have Ea : ∀ {i : Nat}, i < 25 → List.take 1 (List.drop i E.cells) = [.int .u64 (ln A i : Nat)] := fun h => by rw [hE]; exact lnC_at (by rw [hA.len]; exact h)
 rw [← hE]
 refine loopO gM0_ok (pl := Tryz.pl135) Tryz.mix (X := Nat × Value × Hp)
  (fun s => ([(1, .pointer (some ⟨b1, 0, none⟩)), (3, s.2.1), (4, .int .i64 s.1)], s.2.2 ++ [E]))
  (fun s => s.1 ≤ 25 ∧ OutC 3 1 (nC (tab (64 * s.1) (lb A))) (64 * s.1) s.2.1 s.2.2 ∧ freshN s.2.2 [E]) (fun s => 25 - s.1) (0, .slice none 0 0, []) ?_ ?_ (by kernel_rfl) ?_
 · exact ⟨Nat.zero_le _, .tab0 _ _, trivial⟩
 · simp only [push_cast, seval, reduceCtorEq]
   try exact subH_self _
 · rintro ⟨i, vo, No⟩ ⟨hi, ho, hf⟩
   dsimp only at hi ho hf ⊢
   have fb : findE (No ++ [E]) b1 = some E := by rw [findE_freshN hf fb0]; exact fb0
   by_cases hc : i < 25
   · have i1 : (i : Int) < 25 := by omega
     have i2 : i + 1 ≤ 25 := by omega
     have a1 := Ea hc
     have hx := hA.at i
     have hlb := fun (z : Nat) (h : z < 64) => lb_at A (j := i) h
     obtain ⟨x, hx0⟩ : ∃ x, x = ln A i := ⟨_, rfl⟩
     rw [← hx0] at a1 hx hlb
     simp only [push_cast, seval, reduceCtorEq, i1, i2, fb, Ek, Eo, El, a1]
     refine loopO gM0_ok (pl := Tryz.pl135) Tryz.mix (X := Nat × Value × Hp)
      (fun s => ([(1, .pointer (some ⟨b1, 0, none⟩)), (3, s.2.1), (4, .int .i64 i), (5, .int .u64 (hvN x s.1 : Nat)), (6, .int .i64 s.1)], s.2.2 ++ [E]))
      (fun s => s.1 ≤ 64 ∧ OutC 3 1 (nC (tab (64 * i + s.1) (lb A))) (64 * i + s.1) s.2.1 s.2.2 ∧ freshN s.2.2 [E]) (fun s => 64 - s.1) (0, vo, No) ?_ ?_ (by kernel_rfl) ?_
     · exact ⟨Nat.zero_le _, ho, hf⟩
     · rw [hvN_0]
       simp only [push_cast, seval, reduceCtorEq]
       try exact subH_self _
     · rintro ⟨z, vi, Ni⟩ ⟨hz, hi2, hfi⟩
       dsimp only at hz hi2 hfi ⊢
       by_cases hc2 : z < 64
       · have z1 : (z : Int) < 64 := by omega
         have hst := hvN_t x z
         have hbt := hlb z hc2
         rw [hvN_bt] at hbt
         have hy64 : hvN x z < 18446744073709551616 := Nat.lt_of_le_of_lt (hvN_le _ _) hx
         obtain ⟨y, hy⟩ : ∃ y, y = hvN x z := ⟨_, rfl⟩
         obtain ⟨y2, hy2⟩ : ∃ y, y = hvN x (z + 1) := ⟨_, rfl⟩
         rw [← hy] at hst hbt hy64 ⊢
         rw [← hy2] at hst
         have e1 : (y : Int).tmod 2 = (lb A (64 * i + z) : Nat) := by rw [hbt]; rfl
         have e2 : (y : Int).tdiv 2 = (y2 : Int) := by rw [hst]; rfl
         have hl := lb_lt A (64 * i + z)
         obtain ⟨q, hq⟩ : ∃ q, q = 64 * i + z := ⟨_, rfl⟩
         rw [← hq] at e1 hl hi2
         obtain ⟨r, hr⟩ : ∃ r, r = lb A q := ⟨_, rfl⟩
         rw [← hr] at e1 hl
         have w1 : IntKind.u64.wrap (r : Int) = (r : Int) := by rw [IntKind.wrap_u64]; omega
         have w2 : IntKind.u64.wrap (y2 : Int) = (y2 : Int) := by rw [IntKind.wrap_u64]; omega
         simp only [push_cast, seval, reduceCtorEq, i1, z1, e1, e2, w1, w2, wrap_i64' (show -9223372036854775808 ≤ (r : Int) ∧ (r : Int) ≤ 9223372036854775807 by omega)]
         intro b10 hb10
         refine append_out1 (e := 3) (sz := 1) (by_ := 8) (n := q) (m := 1) (ys := [.int .i64 (r : Nat)]) hi2 hb10 (by simp only [push_cast, seval, reduceCtorEq]) (by simp only [push_cast, seval, reduceCtorEq]) rfl rfl (by unfold two47; omega) fun v' N' ho' hf' => ?_
         simp only [push_cast, seval, reduceCtorEq, e2, w2, wrap_i64' (show -9223372036854775808 ≤ (z : Int) + 1 ∧ (z : Int) + 1 ≤ 9223372036854775807 by omega)]
         refine ⟨(z + 1, v', N'), ⟨hc2, ?_, freshN_cons hf'⟩, by dsimp only; omega, ⟨rfl, by rw [hy2], rfl⟩, subH_pre (subH_cons (fresh_app hb10)) _, ?_⟩
         · dsimp only
           rw [hr, tC_app, hq] at ho'
           rw [show 64 * i + (z + 1) = 64 * i + z + 1 by omega]
           exact ho'
         · simp only [marks_append, marksOf, hi2.wr.2, ho'.wr.2]
       · obtain rfl : z = 64 := by omega
         simp only [push_cast, seval, reduceCtorEq, i1, wrap_i64' (show -9223372036854775808 ≤ (i : Int) + 1 ∧ (i : Int) + 1 ≤ 9223372036854775807 by omega)]
         refine ⟨(i + 1, vi, Ni), ⟨hc, ?_, hfi⟩, by dsimp only; omega, ⟨rfl, rfl⟩, subH_self _, rfl⟩
         dsimp only
         rw [show 64 * (i + 1) = 64 * i + 64 by omega]
         exact hi2
   · obtain rfl : i = 25 := by omega
     simp only [push_cast, seval, reduceCtorEq]
     refine ⟨No, ?_, ho⟩
     rw [dropM_eq (by rw [marks_append, ho.wr.2, Em]; rfl)]
     exact List.sublist_append_left _ _
end Go.Proofs.YtpcjmmdgopihcaaGreatDoor
namespace Go.Ev
theorem derE_row {H : Hp} {b : Nat} {k : Kind} {cs : List Value} (h : findE H b = some ⟨b, 0, k, cs⟩) : derE H [⟨b, 0, .ro, cs⟩] := ⟨⟨rfl, by unfold cellsAt; rw [h]; simp [subL]⟩, trivial⟩
theorem derE_hd {W : Hp} {b : Nat} {k : Kind} {cs : List Value} : derE (⟨b, 0, k, cs⟩ :: W) [⟨b, 0, .ro, cs⟩] := derE_row (k := k) (by simp [findE])
theorem ioS_lt {l : List Nat} {i : Nat} (hl : l.length = 1600) (h : ∀ p, ln l p < 2) (p : Nat) {j : Nat} (hj : j ≤ 7) : ln (ioS l i j) p < 2 := by
 rw [ioS_at l i p hl j hj]
 split
 · exact Nat.mod_lt _ (by decide)
 · exact h p
theorem tab_ln_lt {n : Nat} {g : Nat → Nat} (h : ∀ p, g p < 2) (p : Nat) : ln (tab n g) p < 2 := by
 by_cases hp : p < n
 · rw [tab_ln hp]; exact h p
 · unfold ln
   rw [List.getD_eq_getElem?_getD, List.getElem?_eq_none (by rw [tab_len]; omega)]
   exact Nat.zero_lt_two
theorem rcV_len : rcV.length = 168 := by rw [← rcV_eq, rcL_len]
theorem rcV_ln (p : Nat) : ln rcV p < 2 := by
 unfold ln
 rw [List.getD_eq_getElem?_getD]
 cases e : rcV[p]? with
 | none => exact Nat.zero_lt_two
 | some x => exact rcV_lt x (List.mem_of_getElem? e)
def oaL (P : List Nat) : Nat → List Nat
 | 0 => List.replicate 25 0
 | i + 1 => (oaL P i).set i (ln P i)
theorem oaL_len (P : List Nat) : ∀ i, (oaL P i).length = 25
 | 0 => List.length_replicate ..
 | i + 1 => by
   show ((oaL P i).set _ _).length = 25
   rw [List.length_set]; exact oaL_len P i
theorem oaL_at (P : List Nat) (j : Nat) : ∀ i, i ≤ 25 → ln (oaL P i) j = if j < i then ln P j else 0
 | 0, _ => by
   show ln (List.replicate 25 0) j = 0
   unfold ln
   rw [List.getD_eq_getElem?_getD, List.getElem?_replicate]
   split <;> rfl
 | i + 1, h => by
   show ln ((oaL P i).set i _) j = _
   rw [ln_set (by rw [oaL_len]; omega)]
   by_cases hj : j = i
   · subst hj; rw [if_pos rfl, if_pos (Nat.lt_succ_self _)]
   · rw [if_neg hj, oaL_at P j i (by omega)]
     by_cases h2 : j < i
     · rw [if_pos h2, if_pos (by omega)]
     · rw [if_neg h2, if_neg (by omega)]
theorem ln_ext {a b : List Nat} (h : a.length = b.length) (hl : ∀ i < a.length, ln a i = ln b i) : a = b := by
 apply List.ext_getElem?
 intro i
 by_cases hi : i < a.length
 · have := hl i hi
   unfold ln at this
   rw [List.getD_eq_getElem?_getD, List.getD_eq_getElem?_getD, List.getElem?_eq_getElem hi, List.getElem?_eq_getElem (by omega)] at this
   rw [List.getElem?_eq_getElem hi, List.getElem?_eq_getElem (by omega), show a[i] = b[i]'(by omega) from this]
 · rw [List.getElem?_eq_none (by omega), List.getElem?_eq_none (by omega)]
theorem oaL_25 {P : List Nat} (h : Ln 25 P) : oaL P 25 = P := ln_ext (by rw [oaL_len, h.len]) fun i hi => by
 rw [oaL_at P i 25 (Nat.le_refl _), if_pos (by rwa [oaL_len] at hi)]
theorem oaL_set0 (P : List Nat) {i : Nat} (h : i < 25) : (oaL P i).set i 0 = oaL P i := ln_ext (by rw [List.length_set]) fun j _ => by
 rw [ln_set (by rw [oaL_len]; exact h)]
 by_cases hj : j = i
 · subst hj; rw [if_pos rfl, oaL_at P j j (by omega), if_neg (Nat.lt_irrefl _)]
 · rw [if_neg hj]
noncomputable def pwN : Nat → Nat := hid fun j => 2 ^ j
theorem pwN_eq (j : Nat) : pwN j = 2 ^ j := by unfold pwN; rw [hid_eq]
theorem pwN_0 : pwN 0 = 1 := pwN_eq 0
theorem pwN_s (j : Nat) : pwN (j + 1) = 2 * pwN j := by rw [pwN_eq, pwN_eq, Nat.pow_succ, Nat.mul_comm]
theorem pwN_le {j : Nat} (h : j < 7) : 1 ≤ pwN j ∧ pwN j ≤ 64 := by
 rw [pwN_eq]
 exact ⟨Nat.pow_pos (by decide), Nat.le_trans (Nat.pow_le_pow_right (by decide) (show j ≤ 6 by omega)) (by decide)⟩
end Go.Ev
namespace Go.Proofs.YtpcjmmdgopihcaaGreatDoor
open Go Go.Ev Go.Proofs
theorem dperm_ok {A : List Nat} (hA : Ln 25 A) : CallsV Tryz.prog 115 [.agg (lnC A).toArray] [] (Ret0 (.agg (lnC (permK A)).toArray)) := by
 have l2 := hA.cl
 refine callsO gM0_ok Tryz.mix Tryz.pl115 Tryz.func115 rfl Tryz.ntmps115 Tryz.results115 rfl (by first | rfl | assumption) (Nat.le_of_ble_eq_true rfl) (by kernel_rfl) ?_
 simp only [push_cast, seval, reduceCtorEq]
 intro b1 b2 hb2
 try simp only [push_cast, seval, reduceCtorEq, hb2, l2, lnC_take hA]
 refine (dbits_ok hA).use trivial fun v1 N1 ho1 => ⟨ho1.wr.1, ho1.wr.2, fun hf1 => ?_⟩
 obtain ⟨bx, cx, rfl, hcx, -, rfl⟩ := ho1.pos (by decide)
 simp only [push_cast, seval, reduceCtorEq] at hf1
 try simp only [push_cast, seval, reduceCtorEq, hb2, hf1]
 refine drcs_ok.use trivial fun v2 N2 ho2 => ⟨ho2.wr.1, ho2.wr.2, fun hf2 => ?_⟩
 obtain ⟨br, cr, rfl, hcr, -, rfl⟩ := ho2.pos (by decide)
 simp only [push_cast, seval, reduceCtorEq] at hf2
 try simp only [push_cast, seval, reduceCtorEq, hb2, hf1, hf2]
 obtain ⟨W, hW⟩ : ∃ W : Hp, W = [⟨br, 0, .vec 3 1 cr, nC rcV⟩, ⟨b2, 0, .cel 114, lnC (List.replicate 25 0)⟩] := ⟨_, rfl⟩
 have fr : findE W br = some ⟨br, 0, .vec 3 1 cr, nC rcV⟩ := by rw [hW]; simp [findE]
 have mW : marksOf W = [] := by rw [hW]; rfl
 have rl : (nC rcV).length = 168 := by rw [nC_len, rcV_len]
 have ra : ∀ {p : Nat}, p < 168 → List.take 1 (List.drop p (nC rcV)) = [.int .i64 (ln rcV p : Nat)] := fun h => nC_at (by rw [rcV_len]; exact h)
 have gx : fresh bx W := by
  rw [hW]
  simp only [push_cast, seval, reduceCtorEq, hf1, hf2]
 refine loopO gM0_ok (pl := Tryz.pl115) Tryz.mix (X := Nat × Nat × Nat)
  (fun s => ([(2, .pointer (some ⟨b2, 0, none⟩)), (3, .slice (some ⟨s.2.1, 0, none⟩) 1600 s.2.2), (4, .slice (some ⟨br, 0, none⟩) 168 cr), (5, .int .i64 s.1)], ⟨s.2.1, 0, .vec 3 1 s.2.2, nC (tab 1600 (lb (pmS A s.1)))⟩ :: W))
  (fun s => s.1 ≤ 24 ∧ 1600 ≤ s.2.2 ∧ fresh s.2.1 W) (fun s => 24 - s.1) (0, bx, cx) ?_ ?_ (by kernel_rfl) ?_
 · exact ⟨Nat.zero_le _, hcx, gx⟩
 · rw [hW]
   simp only [push_cast, seval, reduceCtorEq, hb2, hf1, hf2]
   exact ⟨rfl, rfl⟩
 · rintro ⟨i, bb, cb⟩ ⟨hi, hcb, gb⟩
   dsimp only at hi hcb gb ⊢
   have hB := pmS_ln hA i
   by_cases hc : i < 24
   · have t0 : (i : Int) < 24 := by omega
     have hst : pmS A (i + 1) = (chiK (turnK (thetaK (pmS A i)))).set 0 (xorN (ln (chiK (turnK (thetaK (pmS A i)))) 0) (ln consK i)) := rfl
     obtain ⟨B, hBe⟩ : ∃ B, B = pmS A i := ⟨_, rfl⟩
     rw [← hBe] at hB hst ⊢
     have hC := thetaK_ln hB
     have hD := turnK_ln hC
     have hF := chiK_ln hD
     simp only [push_cast, seval, reduceCtorEq, t0, fr, mW]
     refine (dtheta_ok (lb_lt B) bb cb).use derE_hd fun v1 N1 ho1 => ⟨ho1.wr.1, ho1.wr.2, fun hf1 => ?_⟩
     rw [theta_T hB] at ho1
     obtain ⟨x1, c1, rfl, hc1, -, rfl⟩ := ho1.pos (by decide)
     simp only [push_cast, seval, reduceCtorEq, t0, fr, mW]
     refine (drho_ok (lb (thetaK B)) x1 c1).use derE_hd fun v2 N2 ho2 => ⟨ho2.wr.1, ho2.wr.2, fun hf2 => ?_⟩
     obtain ⟨x2, c2, rfl, hc2, -, rfl⟩ := ho2.pos (by decide)
     simp only [push_cast, seval, reduceCtorEq, t0, fr, mW]
     refine (dpi_ok (rhB (lb (thetaK B))) x2 c2).use derE_hd fun v3 N3 ho3 => ⟨ho3.wr.1, ho3.wr.2, fun hf3 => ?_⟩
     rw [turn_T hC] at ho3
     obtain ⟨x3, c3, rfl, hc3, -, rfl⟩ := ho3.pos (by decide)
     simp only [push_cast, seval, reduceCtorEq, t0, fr, mW]
     refine (dchi_ok (lb_lt (turnK (thetaK B))) x3 c3).use derE_hd fun v4 N4 ho4 => ⟨ho4.wr.1, ho4.wr.2, fun hf4 => ?_⟩
     rw [chi_T hD] at ho4
     obtain ⟨x4, c4, rfl, hc4, -, rfl⟩ := ho4.pos (by decide)
     have io7 := iota_T hF hc
     rw [← hst] at io7
     obtain ⟨Z, hZ⟩ : ∃ Z, Z = chiK (turnK (thetaK B)) := ⟨_, rfl⟩
     rw [← hZ] at io7 ⊢
     simp only [push_cast, seval, reduceCtorEq, t0, fr, mW]
     obtain ⟨L, hL⟩ : ∃ L, L = tab 1600 (lb Z) := ⟨_, rfl⟩
     have hLl : L.length = 1600 := by rw [hL, tab_len]
     have hLb : ∀ p, ln L p < 2 := fun p => by rw [hL]; exact tab_ln_lt (lb_lt Z) p
     rw [← hL] at io7 ⊢
     have g4 : fresh x4 W := hf4.1.2.2.2.2.2.2.2.2
     have g3 : fresh x3 W := hf3.1.2.2.2.2.2.2
     have g2 : fresh x2 W := hf2.1.2.2.2.2
     have g1 : fresh x1 W := hf1.1.2.2
     refine loopO gM0_ok (pl := Tryz.pl115) Tryz.mix (X := Nat)
      (fun j => ([(2, .pointer (some ⟨b2, 0, none⟩)), (3, .slice (some ⟨x4, 0, none⟩) 1600 c4), (4, .slice (some ⟨br, 0, none⟩) 168 cr), (5, .int .i64 i), (6, .int .i64 (pwN j : Nat)), (7, .int .i64 j)], ⟨x4, 0, .vec 3 1 c4, nC (ioS L i j)⟩ :: W))
      (fun j => j ≤ 7) (fun j => 7 - j) 0 ?_ ?_ (by kernel_rfl) ?_
     · exact Nat.zero_le _
     · rw [pwN_0]
       simp only [push_cast, seval, reduceCtorEq, ioS]
       rw [subH_skip g3, subH_skip g2, subH_skip g1, subH_skip gb]
       exact subH_self _
     · intro j hj
       have hil := ioS_len L i j
       by_cases hc2 : j < 7
       · have j0 : (j : Int) < 7 := by omega
         have hjs : ioS L i (j + 1) = (ioS L i j).set (2 ^ j - 1) ((ln (ioS L i j) (2 ^ j - 1) + ln rcV (j + 7 * i)) % 2) := rfl
         have l1 := ioS_lt hLl hLb (i := i) (2 ^ j - 1) (j := j) (by omega)
         have l2 := rcV_ln (j + 7 * i)
         rw [← pwN_eq] at hjs l1
         obtain ⟨q1, q2⟩ := pwN_le hc2
         have qs := pwN_s j
         obtain ⟨q, hq⟩ : ∃ q, q = pwN j := ⟨_, rfl⟩
         rw [← hq] at hjs l1 q1 q2 qs ⊢
         obtain ⟨p, hp⟩ : ∃ p, p = q - 1 := ⟨_, rfl⟩
         rw [← hp] at hjs l1
         have eq1 : IntKind.i64.wrap ((q : Int) - 1) = (p : Int) := by
          rw [show (q : Int) - 1 = (p : Int) by omega]; exact IntWalk.i64_in _ (by omega)
         obtain ⟨u, hu⟩ : ∃ u, u = j + 7 * i := ⟨_, rfl⟩
         rw [← hu] at hjs l2
         have eu : IntKind.i64.wrap ((j : Int) + 7 * (i : Int)) = (u : Int) := by
          rw [show (j : Int) + 7 * (i : Int) = (u : Int) by omega]; exact IntWalk.i64_in _ (by omega)
         have p1 : (p : Int) < 1600 := by omega
         have p2 : p + 1 ≤ 1600 := by omega
         have u1 : (u : Int) < 168 := by omega
         have u2 : u + 1 ≤ 168 := by omega
         obtain ⟨I, hI⟩ : ∃ I, I = ioS L i j := ⟨_, rfl⟩
         rw [← hI] at hil l1 hjs ⊢
         have hIl : (nC I).length = 1600 := by rw [nC_len, hil, hLl]
         have a1 := nC_at (a := I) (i := p) (by omega)
         have a2 := ra (p := u) (by omega)
         obtain ⟨m, hm⟩ : ∃ m, m = ln I p := ⟨_, rfl⟩
         obtain ⟨n, hn⟩ : ∃ n, n = ln rcV u := ⟨_, rfl⟩
         rw [← hm] at l1 a1 hjs
         rw [← hn] at l2 a2 hjs
         obtain ⟨r, hr⟩ : ∃ r, r = (m + n) % 2 := ⟨_, rfl⟩
         rw [← hr] at hjs
         have er : ((m : Int) + (n : Int)).tmod 2 = (r : Int) := by rw [Int.tmod_eq_emod_of_nonneg (by omega)]; omega
         have a3 := nC_set (a := I) (i := p) (x := r) (by omega)
         rw [← hjs] at a3
         have hIl2 : (nC (ioS L i (j + 1))).length = 1600 := by rw [nC_len, ioS_len, hLl]
         have dx := (fresh_findS g4 fr).2
         simp only [push_cast, seval, reduceCtorEq, j0, fr, mW, dx, eq1, wrap_i64' (show -9223372036854775808 ≤ 7 * (i : Int) ∧ 7 * (i : Int) ≤ 9223372036854775807 by omega), eu, p1, p2, u1, u2, hIl, hIl2, rl, a1, a2, wrap_i64' (show -9223372036854775808 ≤ (m : Int) + (n : Int) ∧ (m : Int) + (n : Int) ≤ 9223372036854775807 by omega), er, wrap_i64' (show -9223372036854775808 ≤ (r : Int) ∧ (r : Int) ≤ 9223372036854775807 by omega), a3, wrap_i64' (show -9223372036854775808 ≤ 2 * (q : Int) ∧ 2 * (q : Int) ≤ 9223372036854775807 by omega), wrap_i64' (show -9223372036854775808 ≤ (j : Int) + 1 ∧ (j : Int) + 1 ≤ 9223372036854775807 by omega)]
         exact ⟨j + 1, hc2, by omega, ⟨by rw [qs, Int.natCast_mul]; rfl, rfl⟩, rfl⟩
       · obtain rfl : j = 7 := by omega
         simp only [push_cast, seval, reduceCtorEq, mW, wrap_i64' (show -9223372036854775808 ≤ (i : Int) + 1 ∧ (i : Int) + 1 ≤ 9223372036854775807 by omega)]
         rw [io7]
         refine ⟨(i + 1, x4, c4), ⟨hc, hc4, g4⟩, by dsimp only; omega, ⟨rfl, rfl⟩, ?_⟩
         dsimp only
         simp only [push_cast, seval, reduceCtorEq, mW]
   · obtain rfl : i = 24 := by omega
     have hP : pmS A 24 = permK A := (permK_eq A).symm
     have hPl := permK_ln hA
     rw [hP]
     simp only [push_cast, seval, reduceCtorEq, mW]
     intro b8 hb8
     obtain ⟨P, hPe⟩ : ∃ P, P = permK A := ⟨_, rfl⟩
     rw [← hPe] at hPl ⊢
     obtain ⟨R, hR⟩ : ∃ e : Ent, e = ⟨bb, 0, .vec 3 1 cb, nC (tab 1600 (lb P))⟩ := ⟨_, rfl⟩
     have Rk : R.kind = .vec 3 1 cb := by rw [hR]
     have Rb : R.blk = bb := by rw [hR]
     have Ro : R.off = 0 := by rw [hR]
     have Rl : R.cells.length = 1600 := by rw [hR]; exact tC_len _ _
     have Ra : ∀ {p : Nat}, p < 1600 → List.take 1 (List.drop p R.cells) = [.int .i64 (lb P p : Nat)] := fun h => by rw [hR]; exact tC_at _ h
     rw [← hR]
     have hol := fun (i : Nat) => oaL_len P i
     refine loopO gM0_ok (pl := Tryz.pl115) Tryz.mix (X := Nat)
      (fun i => ([(2, .pointer (some ⟨b2, 0, none⟩)), (3, .slice (some ⟨bb, 0, none⟩) 1600 cb), (8, .pointer (some ⟨b8, 0, none⟩)), (9, .int .i64 i)], ⟨b8, 0, .cel 114, lnC (oaL P i)⟩ :: R :: W))
      (fun i => i ≤ 25) (fun i => 25 - i) 0 ?_ ?_ (by kernel_rfl) ?_
     · exact Nat.zero_le _
     · simp only [push_cast, seval, reduceCtorEq, hb8, Rb]
       rfl
     · intro i hi
       by_cases hc : i < 25
       · have i1 : (i : Int) < 25 := by omega
         have i2 : i + 1 ≤ 25 := by omega
         have hx := hPl.at i
         have hos : oaL P (i + 1) = (oaL P i).set i (ln P i) := rfl
         have ho0 := oaL_set0 P hc
         have hlb := fun (z : Nat) (h : z < 64) => lb_at P (j := i) h
         obtain ⟨x, hx0⟩ : ∃ x, x = ln P i := ⟨_, rfl⟩
         rw [← hx0] at hx hos hlb
         have hol := hol i
         obtain ⟨O, hO⟩ : ∃ O, O = oaL P i := ⟨_, rfl⟩
         rw [← hO] at hos ho0 hol ⊢
         simp only [push_cast, seval, reduceCtorEq, i1]
         refine loopO gM0_ok (pl := Tryz.pl115) Tryz.mix (X := Nat)
          (fun s => ([(2, .pointer (some ⟨b2, 0, none⟩)), (3, .slice (some ⟨bb, 0, none⟩) 1600 cb), (8, .pointer (some ⟨b8, 0, none⟩)), (9, .int .i64 i), (10, .int .i64 ((s : Int) - 1))], ⟨b8, 0, .cel 114, lnC (O.set i (hvN x s))⟩ :: R :: W))
          (fun s => s ≤ 64) (fun s => s) 64 ?_ ?_ (by kernel_rfl) ?_
         · exact Nat.le_refl _
         · rw [hvN_64 hx, ho0]
           simp only [push_cast, seval, reduceCtorEq]
         · intro s hs
           dsimp only at hs ⊢
           rcases Nat.eq_zero_or_pos s with rfl | h0
           · have z1 : ¬ ((0 : Nat) : Int) - 1 ≥ 0 := by omega
             rw [hvN_0, ← hos]
             simp only [push_cast, seval, reduceCtorEq, z1, wrap_i64' (show -9223372036854775808 ≤ (i : Int) + 1 ∧ (i : Int) + 1 ≤ 9223372036854775807 by omega)]
             exact ⟨i + 1, hc, by omega, rfl, rfl⟩
           · obtain ⟨z, rfl⟩ : ∃ z, s = z + 1 := ⟨s - 1, by omega⟩
             have hj : ((z + 1 : Nat) : Int) - 1 = (z : Int) := by omega
             have z0 : (0 : Int) ≤ (z : Int) := by omega
             have z2 : (z : Int) ≥ 0 := by omega
             rw [hj]
             have hst := hvN_s x z
             have hbt := hlb z (by omega)
             have hy64 : hvN x z < 18446744073709551616 := Nat.lt_of_le_of_lt (hvN_le _ _) hx
             obtain ⟨y2, hy2⟩ : ∃ y, y = hvN x (z + 1) := ⟨_, rfl⟩
             obtain ⟨y, hy⟩ : ∃ y, y = hvN x z := ⟨_, rfl⟩
             rw [← hy2] at hst ⊢
             rw [← hy] at hst hy64
             have lt := bt_lt x z
             obtain ⟨p, hp⟩ : ∃ p, p = 64 * i + z := ⟨_, rfl⟩
             rw [← hp] at hbt
             have a1 := Ra (p := p) (by omega)
             rw [hbt] at a1
             obtain ⟨w, hw⟩ : ∃ w, w = bt x z := ⟨_, rfl⟩
             rw [← hw] at hst lt a1
             have w1 : IntKind.u64.wrap (2 * (y2 : Int)) = 2 * (y2 : Int) := by rw [IntKind.wrap_u64]; omega
             have w2 : IntKind.u64.wrap (w : Int) = (w : Int) := by rw [IntKind.wrap_u64]; omega
             have w3 : IntKind.u64.wrap (2 * (y2 : Int) + (w : Int)) = (y : Int) := by rw [IntKind.wrap_u64]; omega
             have ep : IntKind.i64.wrap (64 * (i : Int) + (z : Int)) = (p : Int) := by
              rw [show 64 * (i : Int) + (z : Int) = (p : Int) by omega]; exact IntWalk.i64_in _ (by omega)
             have p1 : (p : Int) < 1600 := by omega
             have p2 : p + 1 ≤ 1600 := by omega
             have l1 : (lnC (O.set i y2)).length = 25 := by rw [lnC_len, List.length_set, hol]
             have l2 : (O.set i y2).length = 25 := by rw [List.length_set, hol]
             have a2 := lnC_at (a := O.set i y2) (i := i) (by omega)
             rw [ln_set (by omega), if_pos rfl] at a2
             have a3 := lnC_set (a := O.set i y2) (i := i) (x := y) (by omega)
             rw [List.set_set] at a3
             have i0 : (0 : Int) ≤ i := by omega
             have dx : ¬ bb = b8 := hb8.2.1
             simp only [push_cast, seval, reduceCtorEq, i0, i1, i2, z0, z2, Rk, Rb, Ro, Rl, dx, l1, w1, w2, w3, wrap_i64' (show -9223372036854775808 ≤ 64 * (i : Int) ∧ 64 * (i : Int) ≤ 9223372036854775807 by omega), ep, p1, p2, a1, a2, a3, wrap_i64' (show -9223372036854775808 ≤ (z : Int) - 1 ∧ (z : Int) - 1 ≤ 9223372036854775807 by omega)]
             exact ⟨z, by omega, by omega, rfl, by rw [hy]⟩
       · obtain rfl : i = 25 := by omega
         have f2 : findE W b2 = some ⟨b2, 0, .cel 114, lnC (List.replicate 25 0)⟩ := by
          rw [hW]
          simp only [push_cast, seval, reduceCtorEq, hf2]
         have d28 := (fresh_findS hb8.2.2 f2).2
         have d2b := (fresh_findS gb f2).2
         obtain ⟨z0, hz0⟩ : ∃ z, z = List.replicate 25 0 := ⟨_, rfl⟩
         have zc : (lnC z0).length = 25 := by rw [hz0]; exact (Ln.zero 25).cl
         have zd : List.drop 25 (lnC z0) = [] := by rw [hz0]; exact lnC_drop (Ln.zero 25)
         rw [oaL_25 hPl, hW, ← hz0]
         simp only [push_cast, seval, reduceCtorEq, hPl.cl, lnC_take hPl, lnC_one, d28, d2b, Rb, Rk, hf2, zc, zd, lnC_drop hPl, List.append_nil]
end Go.Proofs.YtpcjmmdgopihcaaGreatDoor
namespace Go.Ev
theorem remE_freshN {N : Hp} {e : Ent} (h : freshN N [e]) : remE (N ++ [e]) e.blk = N := by
 induction N with
 | nil => simp [remE]
 | cons x r ih =>
   have : ¬ e.blk = x.blk := h.1.2.1
   simp only [List.cons_append, remE, if_neg this]
   rw [ih h.2]
theorem updE_freshN {N : Hp} {e : Ent} (h : freshN N [e]) (cs : List Value) : updE (N ++ [e]) e.blk cs = N ++ [{ e with cells := cs }] := by
 induction N with
 | nil => simp [updE]
 | cons x r ih =>
   have : ¬ e.blk = x.blk := h.1.2.1
   simp only [List.cons_append, updE, if_neg this]
   rw [ih h.2]
theorem freshN_blk {N : Hp} {e e' : Ent} (hb : e.blk = e'.blk) (h : freshN N [e]) : freshN N [e'] := by
 induction N with
 | nil => trivial
 | cons x r ih =>
   obtain ⟨⟨h1, h2, _⟩, h3⟩ := h
   exact ⟨⟨hb ▸ h1, hb ▸ h2, trivial⟩, ih h3⟩
def idG : List Value → Option Value
 | [x] => some x
 | _ => none
attribute [push_cast] idG
theorem byteV_len (l : List UInt8) : (byteV l).length = l.length := by simp [byteV]
theorem byteV_one (l : List UInt8) : (byteV l).all oneC = true := by simp [byteV, oneC]
theorem byteV_app (l m : List UInt8) : byteV (l ++ m) = byteV l ++ byteV m := by simp [byteV]
end Go.Ev
namespace Go.Proofs.YtpcjmmdgopihcaaGreatDoor
open Go Go.Ev Go.Proofs
theorem noEscape (args : List Value) (v : Value) (h : idG args = some v) : ExtV Tryz.prog 154 args v := by
 unfold idG at h
 split at h
 case h_2 => cases h
 cases h
 intro w
 rw [run_callFunc_extern Tryz.func154 (by kernel_rfl) (by kernel_rfl) (by kernel_rfl) (e := Extern.AbiNoEscape.same) (by kernel_rfl)]
 rw [Lib.run_noEscape]
 rfl
noncomputable def gS : Gam := (addG 154 idG noG)
attribute [push_cast] gS
theorem gS_ok : GamOk Tryz.prog gS := (addX_ok noEscape (noG_ok _))
theorem pk1 : ptrOk Tryz.prog 150 193 152 2 = true := by kernel_rfl
theorem pk2 : ptrOk Tryz.prog 193 150 152 2 = true := by kernel_rfl
theorem pk3 : (Tryz.prog.info? 152).isSome = true := by kernel_rfl
theorem pk4 : usOk Tryz.prog 181 5 = true := by kernel_rfl
attribute [push_cast] pk1 pk2 pk3 pk4
theorem copyCheck_ok (b : Nat) (p v : Value) (hp : p = .pointer none ∨ p = .pointer (some ⟨b, 0, none⟩)) : CallsV Tryz.prog 143 [.pointer (some ⟨b, 0, none⟩)] [⟨b, 0, .cel 152, [p, v]⟩]
  (fun r N => r = .tuple #[] ∧ N = [⟨b, 0, .cel 152, [.pointer (some ⟨b, 0, none⟩), v]⟩]) := by
 rcases hp with rfl | rfl
 · refine callsO gS_ok Tryz.mix Tryz.pl143 Tryz.func143 rfl Tryz.ntmps143 Tryz.results143 rfl (by first | rfl | assumption) (Nat.le_of_ble_eq_true rfl) (by kernel_rfl) ?_
   simp only [push_cast, seval, reduceCtorEq]
   exact ⟨_, List.Sublist.refl _, rfl⟩
 · refine callsO gS_ok Tryz.mix Tryz.pl143 Tryz.func143 rfl Tryz.ntmps143 Tryz.results143 rfl (by first | rfl | assumption) (Nat.le_of_ble_eq_true rfl) (by kernel_rfl) ?_
   simp only [push_cast, seval, reduceCtorEq]
   exact ⟨_, List.Sublist.refl _, rfl⟩
theorem write_ok (b : Nat) (p v : Value) (hp : p = .pointer none ∨ p = .pointer (some ⟨b, 0, none⟩)) (l : List UInt8) (Nv : Hp) (ho : OutC 5 1 (byteV l) l.length v Nv) (hf : freshN Nv [⟨b, 0, .cel 152, [p, v]⟩]) (s : ByteArray) (hlen : l.length + s.size ≤ 140737488355328) :
  CallsV Tryz.prog 122 [.pointer (some ⟨b, 0, none⟩), .string s] (Nv ++ [⟨b, 0, .cel 152, [p, v]⟩])
  (fun r N => r = .tuple #[.int .i64 s.size, .nilIface] ∧ ∃ v' N', OutC 5 1 (byteV (l ++ s.data.toList)) (l ++ s.data.toList).length v' N' ∧ freshN N' [⟨b, 0, .cel 152, [.pointer (some ⟨b, 0, none⟩), v']⟩] ∧ N = N' ++ [⟨b, 0, .cel 152, [.pointer (some ⟨b, 0, none⟩), v']⟩]) := by
 obtain ⟨pa, ca, rfl⟩ := ho.slice
 have fb : findE (Nv ++ [⟨b, 0, .cel 152, [p, .slice pa l.length ca]⟩]) b = some ⟨b, 0, .cel 152, [p, .slice pa l.length ca]⟩ := by
  rw [findE_freshN hf (b := b) (e := ⟨b, 0, .cel 152, [p, .slice pa l.length ca]⟩) (by simp only [push_cast, seval, reduceCtorEq])]; simp only [push_cast, seval, reduceCtorEq]
 have hm : marksOf (Nv ++ [⟨b, 0, .cel 152, [p, .slice pa l.length ca]⟩]) = [] := by rw [marks_append, ho.wr.2]; rfl
 have hsz : s.data.toList.length = s.size := by rw [Array.length_toList]; rfl
 refine callsO gS_ok Tryz.mix Tryz.pl122 Tryz.func122 rfl Tryz.ntmps122 Tryz.results122 rfl (by first | rfl | assumption) (Nat.le_of_ble_eq_true rfl) (by kernel_rfl) ?_
 simp only [push_cast, seval, reduceCtorEq]
 refine CallsV.useM (copyCheck_ok b p (.slice pa l.length ca) hp) fb rfl trivial ?_
 rintro r N ⟨rfl, rfl⟩
 refine ⟨⟨trivial, trivial⟩, rfl, fun hf' => ?_⟩
 rw [show remE (Nv ++ [⟨b, 0, .cel 152, [p, .slice pa l.length ca]⟩]) b = Nv from remE_freshN hf] at hf' ⊢
 simp only [push_cast, seval, reduceCtorEq]
 rw [show (⟨b, 0, .cel 152, [.pointer (some ⟨b, 0, none⟩), .slice pa l.length ca]⟩ :: Nv : Hp) = ⟨b, 0, .cel 152, [.pointer (some ⟨b, 0, none⟩), .slice pa l.length ca]⟩ :: (Nv ++ []) by rw [List.append_nil]]
 refine append_out1 (e := 5) (sz := 1) (by_ := 1) (n := l.length) (m := s.size) (ys := byteV s.data.toList) ho (by rw [List.append_nil]; exact hf'.1) (by simp only [push_cast, seval, reduceCtorEq]) (by simp only [push_cast, seval, reduceCtorEq]) (by rw [byteV_len, hsz, Nat.mul_one]) (byteV_one _) (by unfold two47; omega) fun v' N' ho' hf2 => ?_
 obtain ⟨pb, cb, rfl⟩ := ho'.slice
 have fb' : findE (N' ++ [⟨b, 0, .cel 152, [.pointer (some ⟨b, 0, none⟩), .slice pa l.length ca]⟩]) b = some ⟨b, 0, .cel 152, [.pointer (some ⟨b, 0, none⟩), .slice pa l.length ca]⟩ := by
  rw [findE_freshN hf2 (b := b) (e := ⟨b, 0, .cel 152, [.pointer (some ⟨b, 0, none⟩), .slice pa l.length ca]⟩) (by simp only [push_cast, seval, reduceCtorEq])]; simp only [push_cast, seval, reduceCtorEq]
 have ub : ∀ cs, updE (N' ++ [⟨b, 0, .cel 152, [.pointer (some ⟨b, 0, none⟩), .slice pa l.length ca]⟩]) b cs = N' ++ [⟨b, 0, .cel 152, cs⟩] := fun cs => updE_freshN hf2 cs
 have hm2 : marksOf (N' ++ [⟨b, 0, .cel 152, [.pointer (some ⟨b, 0, none⟩), .slice pb (l.length + s.size) cb]⟩]) = [] := by rw [marks_append, ho'.wr.2]; rfl
 simp only [push_cast, seval, reduceCtorEq, fb', ub]
 refine ⟨N' ++ [⟨b, 0, .cel 152, [.pointer (some ⟨b, 0, none⟩), .slice pb (l.length + s.size) cb]⟩], ?_, .slice pb (l.length + s.size) cb, N', ?_, freshN_blk (by rfl) hf2, rfl⟩
 · rw [dropM_eq hm2]; exact List.Sublist.refl _
 · rw [byteV_app]; simp only [List.length_append, hsz]; exact ho'
def plStr : Plans := fun i => if i = 1 then [(0, 0), (1, 0), (2, 0), (3, 0), (5, 0), (6, 0), (7, 0), (8, 0), (9, 0), (4, 2), (10, 1), (11, 0)] else []
attribute [push_cast] plStr
theorem string_ok (b : Nat) (p v : Value) (l : List UInt8) (hl : l.length < 9223372036854775807) (Nv : Hp) (ho : OutC 5 1 (byteV l) l.length v Nv) (hf : freshN Nv [⟨b, 0, .cel 152, [p, v]⟩]) :
  CallsV Tryz.prog 123 [.pointer (some ⟨b, 0, none⟩)] (Nv ++ [⟨b, 0, .cel 152, [p, v]⟩]) (fun r N => r = .string ⟨l.toArray⟩ ∧ N = []) := by
 rcases ho with ⟨h0, h1, rfl, rfl⟩ | ⟨g, c, h0, rfl, hc, hcl, rfl⟩
 · obtain rfl : l = [] := List.eq_nil_of_length_eq_zero h0
   refine callsO gS_ok Tryz.mix plStr Tryz.func123 rfl Tryz.ntmps123 Tryz.results123 rfl (by first | rfl | assumption) (Nat.le_of_ble_eq_true rfl) (by kernel_rfl) ?_
   simp only [push_cast, seval, reduceCtorEq]
   exact ⟨[], List.nil_sublist _, rfl, rfl⟩
 · simp only [push_cast, seval, reduceCtorEq] at hf
   have c0 : ¬ c = 0 := by omega
   have n0 : ¬ (l.length : Int) = 0 := by omega
   have n1 : (0 : Int) < (l.length : Int) := by omega
   have n2 : (l.length : Int) ≤ 9223372036854775807 := by omega
   have tk : List.take l.length (byteV l) = byteV l := List.take_of_length_le (by rw [byteV_len]; exact Nat.le_refl _)
   refine callsO gS_ok Tryz.mix plStr Tryz.func123 rfl Tryz.ntmps123 Tryz.results123 rfl (by first | rfl | assumption) (Nat.le_of_ble_eq_true rfl) (by kernel_rfl) ?_
   simp only [push_cast, seval, reduceCtorEq, hf, c0, n0, n1, n2, byteV_len, tk]
   exact ⟨[], List.nil_sublist _, rfl⟩
end Go.Proofs.YtpcjmmdgopihcaaGreatDoor
namespace Go.Ev
end Go.Ev
namespace Go.Proofs.YtpcjmmdgopihcaaGreatDoor
open Go Go.Ev Go.Proofs
abbrev BldX := { s : Value × Value × Hp // allWr s.2.2 ∧ marksOf s.2.2 = [] }
def bldH (b : Nat) (s : BldX) : Hp := s.1.2.2 ++ [⟨b, 0, .cel 152, [s.1.1, s.1.2.1]⟩]
theorem bldH_wr (b : Nat) (s : BldX) : ∀ e ∈ bldH b s, e.wr := fun e he => by
 rcases List.mem_append.1 he with h | h
 · exact allWr_mem s.2.1 e h
 · rw [List.mem_singleton.1 h]; trivial
theorem bldH_marks (b : Nat) (s : BldX) : marksOf (bldH b s) = [] := by unfold bldH; rw [marks_append, s.2.2]; rfl
end Go.Proofs.YtpcjmmdgopihcaaGreatDoor
namespace Go.Ev
theorem updE_left {N Y : Hp} {b : Nat} {e : Ent} (h : freshN N Y) (hf : findE Y b = some e) (cs : List Value) : updE (N ++ Y) b cs = N ++ updE Y b cs := by
 have hm : e ∈ Y ∧ e.blk = b := findE_mem hf
 induction N with
 | nil => rfl
 | cons x r ih =>
   have : ¬ b = x.blk := by
    intro h0
    exact fresh_ne h.1 e hm.1 (hm.2.trans h0)
   simp only [List.cons_append, updE, if_neg this]
   rw [ih h.2]
def byteArgs (l : List UInt8) : List (List Value) := l.map fun x => [.int .u8 (x.toNat : Nat)]
theorem byteV_take (l : List UInt8) {i : Nat} (h : i < l.length) : byteV (l.take (i + 1)) = byteV (l.take i) ++ [.int .u8 (l[i].toNat : Nat)] := by
 unfold byteV
 rw [List.take_succ_eq_append_getElem h, List.map_append]; rfl
abbrev SeqX := { s : Value × Hp // allWr s.2 ∧ marksOf s.2 = [] }
noncomputable def wbytes : W → List UInt8 := hid fun w => (List.range 32).map fun j => UInt8.ofNat (digN w.num (31 - j))
theorem wbytes_eq (w : W) : wbytes w = (List.range 32).map fun j => UInt8.ofNat (digN w.num (31 - j)) := by unfold wbytes; rw [hid_eq]
theorem wbytes_len (w : W) : (wbytes w).length = 32 := by rw [wbytes_eq, List.length_map, List.length_range]
theorem wbytes_at (w : W) {j : Nat} (h : j < 32) : (wbytes w)[j]? = some (UInt8.ofNat (digN w.num (31 - j))) := by
 rw [wbytes_eq, List.getElem?_map, List.getElem?_range h]; rfl
theorem ofNat_dig (n j : Nat) : (UInt8.ofNat (digN n j)).toNat = digN n j := by
 have := digN_lt n j
 simp [Nat.mod_eq_of_lt this]
theorem octet {x r : Nat} (hx : x < 18446744073709551616) (hr : r < 8) : IntKind.u8.wrap (shrI .u64 (x : Int) ((r : Int) * 8)) = ((x / 256 ^ r % 256 : Nat) : Int) := by
 unfold shrI
 rw [show ((r : Int) * 8).toNat = 8 * r by omega, show min (8 * r) IntKind.u64.bits = 8 * r by show min (8 * r) 64 = 8 * r; omega, Int.fdiv_eq_ediv_of_nonneg _ (Int.pow_nonneg (by decide)), IntKind.wrap_u8]
 rw [show (2 : Int) ^ (8 * r) = ((256 ^ r : Nat) : Int) by rw [Int.natCast_pow, Int.pow_mul]; rfl]
 rw [Int.natCast_emod, Int.natCast_ediv]; rfl
end Go.Ev
namespace Go.Proofs.YtpcjmmdgopihcaaGreatDoor
open Go Go.Ev Go.Proofs
def seqH (b : Nat) (s : SeqX) : Hp := s.1.2 ++ [⟨b, 0, .cel 101, [s.1.1]⟩]
theorem seqH_wr (b : Nat) (s : SeqX) : ∀ e ∈ seqH b s, e.wr := fun e he => by
 rcases List.mem_append.1 he with h | h
 · exact allWr_mem s.2.1 e h
 · rw [List.mem_singleton.1 h]; trivial
theorem seqH_marks (b : Nat) (s : SeqX) : marksOf (seqH b s) = [] := by unfold seqH; rw [marks_append, s.2.2]; rfl
theorem appendSeq_ok {gf : FuncId} {caps : List Value} {Hc : Hp} {l : List UInt8} (hit : IterV Tryz.prog gf caps Hc (byteArgs l)) (hmc : marksOf Hc = []) (hl : l.length ≤ 1099511627776) :
  CallsV Tryz.prog 147 [.slice none 0 0, .func (.func gf) #[] caps.toArray] Hc (OutC 5 1 (byteV l) l.length) := by
 refine callsO (noG_ok _) Tryz.mix Tryz.pl147 Tryz.func147 rfl Tryz.ntmps147 Tryz.results147 rfl (by first | rfl | assumption) (Nat.le_of_ble_eq_true rfl) (by kernel_rfl) ?_
 simp only [push_cast, seval, reduceCtorEq]
 intro b2 hb2
 refine rangeO (noG_ok _) (pl := Tryz.pl147) Tryz.mix (Hc := Hc) (Hm := []) hit rfl
  (X := SeqX) (seqH b2)
  (fun k s => OutC 5 1 (byteV (l.take k)) k s.1.1 s.1.2 ∧ freshN s.1.2 [⟨b2, 0, .cel 101, [s.1.1]⟩]) (fun _ _ => False) ⟨(.slice none 0 0, []), trivial, rfl⟩
  ?_ ?_ ?_ ?_ (by simp) (fun s => seqH_marks b2 s) (fun s u e he => .inl (seqH_wr b2 u e he)) ?_ (by kernel_rfl) (by kernel_rfl) (fun _ _ h => h.elim) ?_ ?_ (fun _ _ _ _ h => h.elim)
 · exact ⟨.nil _ _, trivial⟩
 · exact subH_rot hb2
 · show marksOf (_ :: Hc) = _
   simp [marksOf, hmc]
 · exact hmc
 · intro args ha
   obtain ⟨z, _, rfl⟩ := List.mem_map.1 ha
   rfl
 · rintro lo k s args hk hs
   obtain ⟨x, hj, rfl⟩ := Option.map_eq_some_iff.1 ((List.getElem?_map ..).symm.trans hk)
   obtain ⟨hk1, rfl⟩ := List.getElem?_eq_some_iff.1 hj
   obtain ⟨ho, hf⟩ := hs
   obtain ⟨⟨v, N⟩, hN⟩ := s
   dsimp only at ho hf
   have hmk := seqH_marks b2 ⟨(v, N), hN⟩
   obtain ⟨pa, ca, rfl⟩ := ho.slice
   have fb : findE (N ++ [⟨b2, 0, .cel 101, [.slice pa k ca]⟩]) b2 = some ⟨b2, 0, .cel 101, [.slice pa k ca]⟩ := by
    rw [findE_freshN hf (b := b2) (e := ⟨b2, 0, .cel 101, [.slice pa k ca]⟩) (by simp only [push_cast, seval, reduceCtorEq])]; simp only [push_cast, seval, reduceCtorEq]
   generalize hRK : (roundK _ _ _ k : Exit → Tm → Hp → Prop) = RK
   show oC _ _ _ _ _ _ _ (parT 13 _ _ [Value.int .u8 (l[k].toNat : Nat)]) _
   unfold seqH at hmk ⊢
   dsimp only at hmk ⊢
   simp only [push_cast, seval, reduceCtorEq, hmk, fb]
   intro b10 hb10
   refine append_out1 (e := 5) (sz := 1) (by_ := 1) (n := k) (m := 1) (ys := [.int .u8 (l[k].toNat : Nat)]) ho hb10 (by simp only [push_cast, seval, reduceCtorEq]) (by simp only [push_cast, seval, reduceCtorEq]) rfl rfl (by unfold two47; omega) fun v' N' ho' hf' => ?_
   obtain ⟨pb, cb, rfl⟩ := ho'.slice
   have h10 : ¬ b2 = b10 := (fresh_app hb10).2.1
   have fb' : findE (N' ++ [⟨b10, 0, .vec 5 1 1, [.int .u8 (l[k].toNat : Nat)]⟩, ⟨b2, 0, .cel 101, [.slice pa k ca]⟩]) b2 = some ⟨b2, 0, .cel 101, [.slice pa k ca]⟩ := by
    rw [findE_freshN hf' (b := b2) (e := ⟨b2, 0, .cel 101, [.slice pa k ca]⟩) (by simp only [push_cast, seval, reduceCtorEq, h10])]; simp only [push_cast, seval, reduceCtorEq, h10]
   have ub : ∀ cs, updE (N' ++ [⟨b10, 0, .vec 5 1 1, [.int .u8 (l[k].toNat : Nat)]⟩, ⟨b2, 0, .cel 101, [.slice pa k ca]⟩]) b2 cs = N' ++ [⟨b10, 0, .vec 5 1 1, [.int .u8 (l[k].toNat : Nat)]⟩, ⟨b2, 0, .cel 101, cs⟩] := fun cs => by
    rw [updE_left hf' (b := b2) (e := ⟨b2, 0, .cel 101, [.slice pa k ca]⟩) (by simp only [push_cast, seval, reduceCtorEq, h10])]; simp only [push_cast, seval, reduceCtorEq, h10]
   simp only [push_cast, seval, reduceCtorEq, fb', ub]
   rw [← hRK]
   refine ⟨⟨(.slice pb (k + 1) cb, N'), ho'.wr⟩, ⟨?_, freshN_blk (by rfl) (freshN_cons hf')⟩, ?_⟩
   · dsimp only
     rw [byteV_take l hk1]
     exact ho'
   · exact subH_pre (subH_cons (a := ⟨b10, 0, .vec 5 1 1, [.int .u8 (l[k].toNat : Nat)]⟩) (X := [⟨b2, 0, .cel 101, [.slice pb (k + 1) cb]⟩]) ⟨fun h => h10 h.symm, h10, trivial⟩) N'
 · rintro D s hfD hs
   obtain ⟨⟨v, N⟩, hN⟩ := s
   obtain ⟨ho, hf⟩ := hs
   dsimp only at ho hf
   unfold seqH at hfD ⊢
   dsimp only at hfD ⊢
   have hDb : ¬ b2 = D := (fresh_app (A := N) (B := [⟨b2, 0, .cel 101, [v]⟩]) hfD).2.1
   rw [show (byteArgs l).length = l.length by simp [byteArgs], List.take_length] at ho
   obtain ⟨pa, ca, rfl⟩ := ho.slice
   have fb : findE (N ++ [⟨b2, 0, .cel 101, [.slice pa l.length ca]⟩]) b2 = some ⟨b2, 0, .cel 101, [.slice pa l.length ca]⟩ := by
    rw [findE_freshN hf (b := b2) (e := ⟨b2, 0, .cel 101, [.slice pa l.length ca]⟩) (by simp only [push_cast, seval, reduceCtorEq])]; simp only [push_cast, seval, reduceCtorEq]
   have hm : marksOf (N ++ [⟨b2, 0, .cel 101, [.slice pa l.length ca]⟩]) = [] := by rw [marks_append, ho.wr.2]; rfl
   simp only [push_cast, seval, reduceCtorEq, hDb, fb]
   refine ⟨N, ?_, ho⟩
   rw [dropM_eq hm]
   exact List.sublist_append_left _ _
end Go.Proofs.YtpcjmmdgopihcaaGreatDoor
namespace Go.Ev
noncomputable def wbytesG : List Value → Option Value
 | [x] => (wOf x).bind fun a => some (.string ⟨(wbytes a).toArray⟩)
 | _ => none
attribute [push_cast] wbytesG
end Go.Ev
namespace Go.Proofs.YtpcjmmdgopihcaaGreatDoor
open Go Go.Ev Go.Proofs
theorem collect_ok {gf : FuncId} {caps : List Value} {Hc : Hp} {l : List UInt8} (hit : IterV Tryz.prog gf caps Hc (byteArgs l)) (hmc : marksOf Hc = []) (hro : ∀ e ∈ Hc, e.kind = .ro) (hd : derE Hc Hc) (hl : l.length ≤ 1099511627776) :
  CallsV Tryz.prog 129 [.func (.func gf) #[] caps.toArray] Hc (OutC 5 1 (byteV l) l.length) := by
 refine callsO (noG_ok _) Tryz.mix Tryz.pl129 Tryz.func129 rfl Tryz.ntmps129 Tryz.results129 rfl (by first | rfl | assumption) (Nat.le_of_ble_eq_true rfl) (by kernel_rfl) ?_
 simp only [push_cast, seval, reduceCtorEq]
 refine (appendSeq_ok hit hmc hl).use hd fun v N ho => ⟨ho.wr.1, ho.wr.2, fun hf => ?_⟩
 simp only [push_cast, seval, reduceCtorEq]
 refine ⟨N, ?_, ho⟩
 rw [dropM_eq (by rw [marks_append, ho.wr.2, hmc]; rfl)]
 exact List.sublist_append_left _ _
theorem octets_ok (w : W) : CallsV Tryz.prog 130 [w.v] [] (fun r N => ∃ b1, r = .func (.func 148) #[] #[.pointer (some ⟨b1, 0, none⟩)] ∧ N = [⟨b1, 0, .cel 28, w.cells⟩]) := by
 refine callsO (noG_ok _) Tryz.mix Tryz.pl130 Tryz.func130 rfl Tryz.ntmps130 Tryz.results130 rfl (by first | rfl | assumption) (Nat.le_of_ble_eq_true rfl) (by kernel_rfl) ?_
 simp only [push_cast, seval, reduceCtorEq]
 intro b1
 exact ⟨_, List.Sublist.refl _, b1, rfl, rfl⟩
theorem octIter {Hc : Hp} {w : W} {b1 : Nat} {k1 : Kind} (hmc : marksOf Hc = []) (h1 : findE Hc b1 = some ⟨b1, 0, k1, w.cells⟩) :
  IterV Tryz.prog 148 [.pointer (some ⟨b1, 0, none⟩)] Hc (byteArgs (wbytes w)) := by
 refine ⟨enterO Tryz.func148 rfl rfl, fun X Ho I St l x0 hro hmk h0 hy => ?_⟩
 have hmarks : ∀ x, marksOf (Hc ++ Ho x) = [] := fun x => by rw [marks_append, hmc, hmk]; rfl
 have hm0 := hmarks x0
 have h1' := fun z => findE_left (B := Ho z) h1
 obtain ⟨vs, hvs⟩ : ∃ vs, vs = byteArgs (wbytes w) := ⟨_, rfl⟩
 have hvl : vs.length = 32 := by rw [hvs]; unfold byteArgs; rw [List.length_map, wbytes_len]
 have yl : ∀ (j : Nat) (z : X) (v : Value) (K' : Value → Hp → Prop), j < 32 → v = .int .u8 (digN w.num (31 - j) : Nat) → I j z → (∀ x', I (j + 1) x' → K' (.bool true) (Hc ++ Ho x')) → (∀ x', St x' → K' (.bool false) (Hc ++ Ho x')) → YieldV Tryz.prog l [v] (Hc ++ Ho z) K' := fun j z v K' hj hv hi ht hf => by
  subst hv
  refine (hy j z [.int .u8 (digN w.num (31 - j) : Nat)] (by unfold byteArgs; rw [List.getElem?_map, wbytes_at w hj, Option.map_some, ofNat_dig]) hi).frame ?_ ?_
  · rintro v H' (⟨rfl, x', _, rfl⟩ | ⟨rfl, x', _, rfl⟩) <;> exact hro z x'
  · rintro v H' (⟨rfl, x', h, rfl⟩ | ⟨rfl, x', h, rfl⟩)
    · exact ht x' h
    · exact hf x' h
 have yf : ∀ (x' : X), (I vs.length x' ∨ St x') → ∃ H'_1, List.Sublist H'_1 (dropM (Hc ++ Ho x')) ∧ ∃ z, (I vs.length z ∨ St z) ∧ H'_1 = Ho z := fun x' hst => by
  refine ⟨Ho x', ?_, x', hst, rfl⟩
  rw [dropM_eq (hmarks x')]
  exact List.sublist_append_right _ _
 have ha := w.ha; have hb := w.hb; have hc := w.hc; have hd := w.hd
 rw [← hvs]
 refine callsO (noG_ok _) Tryz.mix Tryz.pl148 Tryz.func148 rfl Tryz.ntmps148 Tryz.results148 rfl (by first | rfl | assumption) (Nat.le_of_ble_eq_true rfl) (by kernel_rfl) ?_
 simp only [push_cast, seval, reduceCtorEq, h1']
 refine loopO (noG_ok _) (pl := Tryz.pl148) Tryz.mix (X := Nat × X)
  (fun s => ([(0, .func (.yield l) #[] #[]), (1, .pointer (some ⟨b1, 0, none⟩)), (3, .int .i64 ((s.1 : Int) - 1))], Hc ++ Ho s.2))
  (fun s => s.1 ≤ 32 ∧ I (32 - s.1) s.2) (fun s => s.1) (32, x0) ?_ ?_ (by kernel_rfl) ?_
 · exact ⟨Nat.le_refl _, h0⟩
 · simp only [push_cast, seval, reduceCtorEq, hm0, subH_self]
   done
 · rintro ⟨s, z⟩ ⟨hi, hI⟩
   dsimp only at hi hI ⊢
   rcases Nat.eq_zero_or_pos s with rfl | hs
   · simp only [push_cast, seval, reduceCtorEq, h1']
     exact yf z (.inl (by rw [hvl]; exact hI))
   · obtain ⟨i, rfl⟩ : ∃ i, s = i + 1 := ⟨s - 1, by omega⟩
     have ej : ((i + 1 : Nat) : Int) - 1 = (i : Int) := by omega
     have i0 : (0 : Int) ≤ (i : Int) := by omega
     rw [ej]
     obtain ⟨p, hp⟩ : ∃ p, p = i / 8 := ⟨_, rfl⟩
     obtain ⟨r, hr⟩ : ∃ r, r = i % 8 := ⟨_, rfl⟩
     have ep : (i : Int).tdiv 8 = (p : Int) := by rw [hp]; rfl
     have er : (i : Int).tmod 8 = (r : Int) := by rw [hr]; rfl
     have hdg := dig_part w (i := p) (k := r) (by omega) (by omega)
     rw [show 8 * p + r = i by omega] at hdg
     have hoc : ∀ x, w.part p = x → x < 18446744073709551616 → IntKind.u8.wrap (shrI .u64 (x : Int) ((r : Int) * 8)) = ((digN w.num i : Nat) : Int) := fun x hx hl => by rw [octet hl (by omega), hdg, hx]
     have hj : 31 - (32 - (i + 1)) = i := by omega
     have rn : ¬ (r : Int) * 8 < 0 := by omega
     obtain rfl | rfl | rfl | rfl : p = 0 ∨ p = 1 ∨ p = 2 ∨ p = 3 := by omega
     · have ho := hoc w.a rfl ha
       simp only [push_cast, seval, reduceCtorEq, h1', i0, ep, er, rn, ho, wrap_i64' (show -9223372036854775808 ≤ (r : Int) * 8 ∧ (r : Int) * 8 ≤ 9223372036854775807 by omega)]
       refine yl (32 - (i + 1)) z _ _ (by omega) (by rw [hj]) hI (fun x' hx' => ?_) (fun x' hx' => ?_)
       · simp only [push_cast, seval, reduceCtorEq, wrap_i64' (show -9223372036854775808 ≤ (i : Int) - 1 ∧ (i : Int) - 1 ≤ 9223372036854775807 by omega)]
         exact ⟨(i, x'), ⟨by dsimp only; omega, by dsimp only; rw [show 32 - i = 32 - (i + 1) + 1 by omega]; exact hx'⟩, by dsimp only; omega, ⟨rfl, subH_self _, by simp only [hmarks]⟩⟩
       · simp only [push_cast, seval, reduceCtorEq]
         exact yf x' (.inr hx')
     · have ho := hoc w.b rfl hb
       simp only [push_cast, seval, reduceCtorEq, h1', i0, ep, er, rn, ho, wrap_i64' (show -9223372036854775808 ≤ (r : Int) * 8 ∧ (r : Int) * 8 ≤ 9223372036854775807 by omega)]
       refine yl (32 - (i + 1)) z _ _ (by omega) (by rw [hj]) hI (fun x' hx' => ?_) (fun x' hx' => ?_)
       · simp only [push_cast, seval, reduceCtorEq, wrap_i64' (show -9223372036854775808 ≤ (i : Int) - 1 ∧ (i : Int) - 1 ≤ 9223372036854775807 by omega)]
         exact ⟨(i, x'), ⟨by dsimp only; omega, by dsimp only; rw [show 32 - i = 32 - (i + 1) + 1 by omega]; exact hx'⟩, by dsimp only; omega, ⟨rfl, subH_self _, by simp only [hmarks]⟩⟩
       · simp only [push_cast, seval, reduceCtorEq]
         exact yf x' (.inr hx')
     · have ho := hoc w.c rfl hc
       simp only [push_cast, seval, reduceCtorEq, h1', i0, ep, er, rn, ho, wrap_i64' (show -9223372036854775808 ≤ (r : Int) * 8 ∧ (r : Int) * 8 ≤ 9223372036854775807 by omega)]
       refine yl (32 - (i + 1)) z _ _ (by omega) (by rw [hj]) hI (fun x' hx' => ?_) (fun x' hx' => ?_)
       · simp only [push_cast, seval, reduceCtorEq, wrap_i64' (show -9223372036854775808 ≤ (i : Int) - 1 ∧ (i : Int) - 1 ≤ 9223372036854775807 by omega)]
         exact ⟨(i, x'), ⟨by dsimp only; omega, by dsimp only; rw [show 32 - i = 32 - (i + 1) + 1 by omega]; exact hx'⟩, by dsimp only; omega, ⟨rfl, subH_self _, by simp only [hmarks]⟩⟩
       · simp only [push_cast, seval, reduceCtorEq]
         exact yf x' (.inr hx')
     · have ho := hoc w.d rfl hd
       simp only [push_cast, seval, reduceCtorEq, h1', i0, ep, er, rn, ho, wrap_i64' (show -9223372036854775808 ≤ (r : Int) * 8 ∧ (r : Int) * 8 ≤ 9223372036854775807 by omega)]
       refine yl (32 - (i + 1)) z _ _ (by omega) (by rw [hj]) hI (fun x' hx' => ?_) (fun x' hx' => ?_)
       · simp only [push_cast, seval, reduceCtorEq, wrap_i64' (show -9223372036854775808 ≤ (i : Int) - 1 ∧ (i : Int) - 1 ≤ 9223372036854775807 by omega)]
         exact ⟨(i, x'), ⟨by dsimp only; omega, by dsimp only; rw [show 32 - i = 32 - (i + 1) + 1 by omega]; exact hx'⟩, by dsimp only; omega, ⟨rfl, subH_self _, by simp only [hmarks]⟩⟩
       · simp only [push_cast, seval, reduceCtorEq]
         exact yf x' (.inr hx')
theorem wordBytes (w : W) : CallsV Tryz.prog 105 [w.v] [] (Ret0 (.string ⟨(wbytes w).toArray⟩)) := by
 refine callsO (noG_ok _) Tryz.mix Tryz.pl105 Tryz.func105 rfl Tryz.ntmps105 Tryz.results105 rfl (by first | rfl | assumption) (Nat.le_of_ble_eq_true rfl) (by kernel_rfl) ?_
 simp only [push_cast, seval, reduceCtorEq]
 intro b1
 refine (octets_ok w).use trivial ?_
 rintro r N ⟨b2, rfl, rfl⟩
 refine ⟨⟨trivial, trivial⟩, rfl, fun hf => ?_⟩
 simp only [push_cast, seval, reduceCtorEq] at hf
 simp only [push_cast, seval, reduceCtorEq, hf]
 have hdr : derE [⟨b2, 0, .ro, w.cells⟩] [⟨b2, 0, .ro, w.cells⟩] := by simp only [push_cast, seval, reduceCtorEq]
 refine (collect_ok (l := wbytes w) (octIter (Hc := [⟨b2, 0, .ro, w.cells⟩]) (w := w) (b1 := b2) (k1 := .ro) rfl (by simp [findE])) rfl (by simp) hdr (by rw [wbytes_len]; decide)).use (by simp only [push_cast, seval, reduceCtorEq, hf]) ?_
 rintro v N ho
 refine ⟨ho.wr.1, ho.wr.2, fun hf2 => ?_⟩
 have hw := wbytes_len w
 rw [hw] at ho
 obtain ⟨bz, cz, rfl, hcz, hzl, rfl⟩ := ho.pos (by decide)
 have hbo := bytesOf_byteV (wbytes w)
 have htk : List.take 32 (byteV (wbytes w)) = byteV (wbytes w) := List.take_of_length_le (by rw [byteV_len, hw]; exact Nat.le_refl _)
 have hbl : (byteV (wbytes w)).length = 32 := by rw [byteV_len, hw]
 simp only [push_cast, seval, reduceCtorEq, hf, strOfV, htk, hbl, hbo]
 done
theorem wordBytesG (args : List Value) (v : Value) (h : wbytesG args = some v) : CallsV Tryz.prog 105 args [] (Ret0 v) := by
 unfold wbytesG at h
 split at h
 · rename_i x
   cases hx : wOf x with
   | none => simp [hx] at h
   | some a =>
     simp only [hx, Option.bind_some, Option.some.injEq] at h
     rw [wOf_some hx, ← h]
     exact wordBytes a
 · cases h
end Go.Proofs.YtpcjmmdgopihcaaGreatDoor
namespace Go.Ev
def bs (l : List UInt8) : ByteArray := ⟨l.toArray⟩
theorem bs_of (b : ByteArray) : ∃ l, b = bs l := ⟨b.data.toList, by unfold bs; simp⟩
theorem bs_size (l : List UInt8) : (bs l).size = l.length := by simp [bs, ByteArray.size]
theorem bs_data (l : List UInt8) : (bs l).data.toList = l := by simp [bs]
theorem bs_toList (l : List UInt8) : (bs l).toList = l := by unfold bs; exact ByteArray.toList_mk l
theorem bs_extract (l : List UInt8) (i j : Nat) : (bs l).extract i j = bs ((l.drop i).take (j - i)) := ByteArray.extract_mk l i j
theorem bs_append (l m : List UInt8) : bs l ++ bs m = bs (l ++ m) := by
 have : (bs l ++ bs m).data = (bs (l ++ m)).data := by rw [ByteArray.data_append]; simp [bs]
 exact congrArg ByteArray.mk this
theorem bs_mk (l : List UInt8) : ({ data := l.toArray } : ByteArray) = bs l := rfl
attribute [push_cast] bs_size bs_data bs_toList bs_extract bs_append
end Go.Ev
namespace Go.Proofs.YtpcjmmdgopihcaaGreatDoor
open Go Go.Ev Go.Proofs
end Go.Proofs.YtpcjmmdgopihcaaGreatDoor
namespace Go.Ev
inductive It where
 | mk (list : Bool) (bytes : List UInt8) (kids : List It)
def It.list : It → Bool | .mk l _ _ => l
def It.bytes : It → List UInt8 | .mk _ b _ => b
def It.kids : It → List It | .mk _ _ k => k
noncomputable def numL (w : W) : List UInt8 := (wbytes w).dropWhile fun b => b == 0
noncomputable def headL (kind n : Nat) : List UInt8 :=
 if n ≤ 55 then [UInt8.ofNat (kind + n)] else UInt8.ofNat (kind + 55 + (numL (W.ofInt (n : Int))).length) :: numL (W.ofInt (n : Int))
noncomputable def textL (b : List UInt8) : List UInt8 :=
 match b with
 | [c] => if c.toNat < 128 then [c] else headL 128 1 ++ [c]
 | b => headL 128 b.length ++ b
mutual
noncomputable def encL : It → List UInt8
 | .mk true _ ks => headL 192 (encLs ks).length ++ encLs ks
 | .mk false b _ => textL b
noncomputable def encLs : List It → List UInt8
 | [] => []
 | k :: r => encL k ++ encLs r
end
theorem encLs_flat : ∀ ks : List It, encLs ks = (ks.map encL).flatten
 | [] => by simp [encLs]
 | k :: r => by rw [encLs, encLs_flat r]; simp
mutual
def allI : It → Nat → List (Nat × It)
 | .mk l b ks, d => (d, .mk l b ks) :: (if 16 < d then [] else allIs ks (d + 1))
def allIs : List It → Nat → List (Nat × It)
 | [], _ => []
 | k :: r, d => allI k d ++ allIs r d
end
def wfI (y : It) : Bool := if y.list then y.bytes.isEmpty else y.kids.isEmpty
def rightI (x : It) : Bool := decide ((allI x 1).length ≤ 5000) && (allI x 1).all fun p => decide (p.1 ≤ 16) && wfI p.2
inductive Iv where
 | mk (list : Bool) (bytes : List UInt8) (sv : Value) (kids : List Iv)
def Iv.list : Iv → Bool | .mk l _ _ _ => l
def Iv.bytes : Iv → List UInt8 | .mk _ b _ _ => b
def Iv.sv : Iv → Value | .mk _ _ s _ => s
def Iv.kids : Iv → List Iv | .mk _ _ _ k => k
theorem Iv.ind {p : Iv → Prop} (h : ∀ x : Iv, (∀ k ∈ x.kids, p k) → p x) (x : Iv) : p x := h x fun k hk => Iv.ind h k
termination_by SizeOf.sizeOf x
decreasing_by
 cases x with
 | mk l b s ks =>
   have := List.sizeOf_lt_of_mem (show k ∈ ks from hk)
   simp only [Iv.mk.sizeOf_spec]
   omega
mutual
def Iv.it : Iv → It
 | .mk l b _ ks => .mk l b (Iv.its ks)
def Iv.its : List Iv → List It
 | [] => []
 | k :: r => k.it :: Iv.its r
end
theorem Iv.its_map : ∀ ks : List Iv, Iv.its ks = ks.map Iv.it
 | [] => rfl
 | k :: r => by rw [Iv.its, Iv.its_map r]; rfl
theorem Iv.it_list (x : Iv) : x.it.list = x.list := by cases x; simp only [Iv.it]; rfl
theorem Iv.it_bytes (x : Iv) : x.it.bytes = x.bytes := by cases x; simp only [Iv.it]; rfl
theorem Iv.it_kids (x : Iv) : x.it.kids = x.kids.map Iv.it := by cases x; simp only [Iv.it]; exact Iv.its_map _
def Iv.cells (x : Iv) : List Value := [.bool x.list, .string (bs x.bytes), x.sv]
def Iv.v (x : Iv) : Value := .agg #[.bool x.list, .string (bs x.bytes), x.sv]
theorem Iv.len (x : Iv) : x.cells.length = 3 := rfl
mutual
def allV : Iv → Nat → List (Nat × Iv)
 | .mk l b s ks, d => (d, .mk l b s ks) :: (if 16 < d then [] else allVs ks (d + 1))
def allVs : List Iv → Nat → List (Nat × Iv)
 | [], _ => []
 | k :: r, d => allV k d ++ allVs r d
end
mutual
theorem allV_it : ∀ (x : Iv) (d : Nat), (allV x d).map (fun p => (p.1, p.2.it)) = allI x.it d
 | .mk l b s ks, d => by
   rw [allV, Iv.it, allI, List.map_cons]
   by_cases h : 16 < d
   · rw [if_pos h, if_pos h]; simp only [Iv.it]; rfl
   · rw [if_neg h, if_neg h, allVs_it ks (d + 1)]; simp only [Iv.it]
theorem allVs_it : ∀ (ks : List Iv) (d : Nat), (allVs ks d).map (fun p => (p.1, p.2.it)) = allIs (Iv.its ks) d
 | [], d => by rw [allVs, Iv.its, allIs]; rfl
 | k :: r, d => by rw [allVs, Iv.its, allIs, List.map_append, allV_it k d, allVs_it r d]
end
end Go.Ev
