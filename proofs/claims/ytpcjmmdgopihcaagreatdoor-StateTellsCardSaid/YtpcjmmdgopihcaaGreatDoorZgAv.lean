/- Texts of this claim, merged by program: Wf Wg Wh Si Oa Ob Sd Se Sh Sj Sk Sl Oe Of Og EvN Oh Oi Oj Mk Ml. -/
import Derived.Test.YtpcjmmdgopihcaaGreatDoorZgAp
import Derived.Test.YtpcjmmdgopihcaaGreatDoorZgAq
import Derived.Test.YtpcjmmdgopihcaaGreatDoorZgAu
import Derived.Test.YtpcjmmdgopihcaaGreatDoorZgAr
import Derived.Test.YtpcjmmdgopihcaaGreatDoorZgAh
import Derived.Test.YtpcjmmdgopihcaaGreatDoorZgAs
import Derived.Test.YtpcjmmdgopihcaaGreatDoorZgAf
set_option linter.unusedSimpArgs false
set_option linter.unusedVariables false
set_option maxRecDepth 100000
set_option maxHeartbeats 4000000
namespace Go.Proofs.YtpcjmmdgopihcaaGreatDoor
open Go Go.Ev Go.Proofs
theorem digits_ok (w : W) : CallsV Tryz.prog 134 [w.v] [] (OutC 3 1 (zs (digs w.num 32)) 32) := by
 refine callsO (noG_ok _) Tryz.mix Tryz.pl134 Tryz.func134 rfl Tryz.ntmps134 Tryz.results134 rfl (by first | rfl | assumption) (Nat.le_of_ble_eq_true rfl) (by kernel_rfl) ?_
 simp only [push_cast, seval, reduceCtorEq]
 intro b1
 refine loopO (noG_ok _) (pl := Tryz.pl134) Tryz.mix (X := Nat × Value × Hp)
  (fun s => ([(1, .pointer (some ⟨b1, 0, none⟩)), (3, s.2.1), (4, .int .i64 s.1)], s.2.2 ++ [⟨b1, 0, .cel 28, w.cells⟩]))
  (fun s => s.1 ≤ 4 ∧ OutC 3 1 (zs (digs w.num (8 * s.1))) (8 * s.1) s.2.1 s.2.2 ∧ freshN s.2.2 [⟨b1, 0, .cel 28, w.cells⟩]) (fun s => 4 - s.1) (0, .slice none 0 0, []) ?_ ?_ (by kernel_rfl) ?_
 · exact ⟨by decide, .nil _ _, trivial⟩
 · simp only [push_cast, seval, reduceCtorEq]
 · rintro ⟨i, vo, No⟩ ⟨hi, ho, hf⟩
   dsimp only at hi ho hf ⊢
   have fb : findE (No ++ [⟨b1, 0, .cel 28, w.cells⟩]) b1 = some ⟨b1, 0, .cel 28, w.cells⟩ := by
    rw [findE_freshN hf (b := b1) (e := ⟨b1, 0, .cel 28, w.cells⟩) (by simp only [push_cast, seval, reduceCtorEq])]; simp only [push_cast, seval, reduceCtorEq]
   obtain rfl | rfl | rfl | rfl | rfl : i = 0 ∨ i = 1 ∨ i = 2 ∨ i = 3 ∨ i = 4 := by omega
   · simp only [push_cast, seval, reduceCtorEq, fb]
     refine loopO (noG_ok _) (pl := Tryz.pl134) Tryz.mix (X := Nat × Nat × Value × Hp)
      (fun s => ([(1, .pointer (some ⟨b1, 0, none⟩)), (3, s.2.2.1), (4, .int .i64 0), (5, .int .u64 s.2.1), (6, .int .i64 s.1)], s.2.2.2 ++ [⟨b1, 0, .cel 28, w.cells⟩]))
      (fun s => s.1 ≤ 8 ∧ s.2.1 = w.a / 256 ^ s.1 ∧ OutC 3 1 (zs (digs w.num (s.1))) (s.1) s.2.2.1 s.2.2.2 ∧ freshN s.2.2.2 [⟨b1, 0, .cel 28, w.cells⟩]) (fun s => 8 - s.1) (0, w.a, vo, No) ?_ ?_ (by kernel_rfl) ?_
     · exact ⟨by dsimp only; omega, by simp, ho, hf⟩
     · simp only [push_cast, seval, reduceCtorEq]
       try exact subH_self _
     · rintro ⟨k, x, vo, No⟩ ⟨hk, hx, ho, hf⟩
       dsimp only at hk hx ho hf ⊢
       rcases Nat.lt_or_ge k 8 with hlt | hge
       · have k8 : (k : Int) < 8 := by omega
         obtain ⟨d, hd0⟩ : ∃ d, d = digN w.num (8 * 0 + k) := ⟨_, rfl⟩
         have hd : d = x % 256 := by rw [hd0, dig_part w (by decide) hlt, hx]; rfl
         have e1 : (x : Int).tmod 256 = (d : Int) := by rw [hd]; rfl
         have hdl : d < 256 := by rw [hd]; omega
         obtain ⟨x2, hx2⟩ : ∃ x2 : Nat, x2 = x / 256 := ⟨_, rfl⟩
         have e2 : (x : Int).tdiv 256 = (x2 : Int) := by rw [hx2]; rfl
         have hxl : x2 < 18446744073709551616 := by
          have := w.ha
          have h3 : x ≤ w.a := by rw [hx]; exact Nat.div_le_self _ _
          omega
         simp only [push_cast, seval, reduceCtorEq, k8, e1, wrap_i64' (show -9223372036854775808 ≤ (d : Int) ∧ (d : Int) ≤ 9223372036854775807 by omega)]
         intro b10 hb10
         refine append_out1 (e := 3) (sz := 1) (by_ := 8) (n := k) (m := 1) (ys := [.int .i64 (d : Int)]) ho hb10 (by simp only [push_cast, seval, reduceCtorEq]) (by simp only [push_cast, seval, reduceCtorEq]) rfl rfl (by unfold two47; omega) fun v' N' ho' hf' => ?_
         simp only [push_cast, seval, reduceCtorEq, e2, wrap_u64' (n := (x2 : Int)) (by omega), wrap_i64' (show -9223372036854775808 ≤ (k : Int) + 1 ∧ (k : Int) + 1 ≤ 9223372036854775807 by omega)]
         refine ⟨(k + 1, x2, v', N'), ⟨by dsimp only; omega, ?_, ?_, freshN_cons hf'⟩, by dsimp only; omega, ⟨rfl, rfl, rfl⟩, ?_, ?_⟩
         · dsimp only; rw [hx2, hx, Nat.div_div_eq_div_mul, Nat.pow_succ]
         · dsimp only
           have hz : zs (digs w.num ((k + 1))) = zs (digs w.num (k)) ++ [.int .i64 (d : Int)] := by rw [digs_succ, zs_app, hd0, Nat.mul_zero, Nat.zero_add]; rfl
           rw [hz]
           exact ho'
         · exact subH_pre (subH_cons (fresh_app hb10)) _
         · simp only [marks_append, marksOf, ho.wr.2, ho'.wr.2]
       · obtain rfl : k = 8 := by omega
         simp only [push_cast, seval, reduceCtorEq, wrap_i64' (show -9223372036854775808 ≤ ((0 : Nat) : Int) + 1 ∧ ((0 : Nat) : Int) + 1 ≤ 9223372036854775807 by omega)]
         exact ⟨(1, vo, No), ⟨by dsimp only; omega, ho, hf⟩, by dsimp only; omega, ⟨rfl, rfl⟩, subH_self _, rfl⟩
   · simp only [push_cast, seval, reduceCtorEq, fb]
     refine loopO (noG_ok _) (pl := Tryz.pl134) Tryz.mix (X := Nat × Nat × Value × Hp)
      (fun s => ([(1, .pointer (some ⟨b1, 0, none⟩)), (3, s.2.2.1), (4, .int .i64 1), (5, .int .u64 s.2.1), (6, .int .i64 s.1)], s.2.2.2 ++ [⟨b1, 0, .cel 28, w.cells⟩]))
      (fun s => s.1 ≤ 8 ∧ s.2.1 = w.b / 256 ^ s.1 ∧ OutC 3 1 (zs (digs w.num (8 + s.1))) (8 + s.1) s.2.2.1 s.2.2.2 ∧ freshN s.2.2.2 [⟨b1, 0, .cel 28, w.cells⟩]) (fun s => 8 - s.1) (0, w.b, vo, No) ?_ ?_ (by kernel_rfl) ?_
     · exact ⟨by dsimp only; omega, by simp, ho, hf⟩
     · simp only [push_cast, seval, reduceCtorEq]
       try exact subH_self _
     · rintro ⟨k, x, vo, No⟩ ⟨hk, hx, ho, hf⟩
       dsimp only at hk hx ho hf ⊢
       rcases Nat.lt_or_ge k 8 with hlt | hge
       · have k8 : (k : Int) < 8 := by omega
         obtain ⟨d, hd0⟩ : ∃ d, d = digN w.num (8 * 1 + k) := ⟨_, rfl⟩
         have hd : d = x % 256 := by rw [hd0, dig_part w (by decide) hlt, hx]; rfl
         have e1 : (x : Int).tmod 256 = (d : Int) := by rw [hd]; rfl
         have hdl : d < 256 := by rw [hd]; omega
         obtain ⟨x2, hx2⟩ : ∃ x2 : Nat, x2 = x / 256 := ⟨_, rfl⟩
         have e2 : (x : Int).tdiv 256 = (x2 : Int) := by rw [hx2]; rfl
         have hxl : x2 < 18446744073709551616 := by
          have := w.hb
          have h3 : x ≤ w.b := by rw [hx]; exact Nat.div_le_self _ _
          omega
         simp only [push_cast, seval, reduceCtorEq, k8, e1, wrap_i64' (show -9223372036854775808 ≤ (d : Int) ∧ (d : Int) ≤ 9223372036854775807 by omega)]
         intro b10 hb10
         refine append_out1 (e := 3) (sz := 1) (by_ := 8) (n := 8 + k) (m := 1) (ys := [.int .i64 (d : Int)]) ho hb10 (by simp only [push_cast, seval, reduceCtorEq]) (by simp only [push_cast, seval, reduceCtorEq]) rfl rfl (by unfold two47; omega) fun v' N' ho' hf' => ?_
         simp only [push_cast, seval, reduceCtorEq, e2, wrap_u64' (n := (x2 : Int)) (by omega), wrap_i64' (show -9223372036854775808 ≤ (k : Int) + 1 ∧ (k : Int) + 1 ≤ 9223372036854775807 by omega)]
         refine ⟨(k + 1, x2, v', N'), ⟨by dsimp only; omega, ?_, ?_, freshN_cons hf'⟩, by dsimp only; omega, ⟨rfl, rfl, rfl⟩, ?_, ?_⟩
         · dsimp only; rw [hx2, hx, Nat.div_div_eq_div_mul, Nat.pow_succ]
         · dsimp only
           have hz : zs (digs w.num (8 + (k + 1))) = zs (digs w.num (8 + k)) ++ [.int .i64 (d : Int)] := by rw [← Nat.add_assoc, digs_succ, zs_app, hd0]; rfl
           rw [hz]
           exact ho'
         · exact subH_pre (subH_cons (fresh_app hb10)) _
         · simp only [marks_append, marksOf, ho.wr.2, ho'.wr.2]
       · obtain rfl : k = 8 := by omega
         simp only [push_cast, seval, reduceCtorEq, wrap_i64' (show -9223372036854775808 ≤ ((1 : Nat) : Int) + 1 ∧ ((1 : Nat) : Int) + 1 ≤ 9223372036854775807 by omega)]
         exact ⟨(2, vo, No), ⟨by dsimp only; omega, ho, hf⟩, by dsimp only; omega, ⟨rfl, rfl⟩, subH_self _, rfl⟩
   · simp only [push_cast, seval, reduceCtorEq, fb]
     refine loopO (noG_ok _) (pl := Tryz.pl134) Tryz.mix (X := Nat × Nat × Value × Hp)
      (fun s => ([(1, .pointer (some ⟨b1, 0, none⟩)), (3, s.2.2.1), (4, .int .i64 2), (5, .int .u64 s.2.1), (6, .int .i64 s.1)], s.2.2.2 ++ [⟨b1, 0, .cel 28, w.cells⟩]))
      (fun s => s.1 ≤ 8 ∧ s.2.1 = w.c / 256 ^ s.1 ∧ OutC 3 1 (zs (digs w.num (16 + s.1))) (16 + s.1) s.2.2.1 s.2.2.2 ∧ freshN s.2.2.2 [⟨b1, 0, .cel 28, w.cells⟩]) (fun s => 8 - s.1) (0, w.c, vo, No) ?_ ?_ (by kernel_rfl) ?_
     · exact ⟨by dsimp only; omega, by simp, ho, hf⟩
     · simp only [push_cast, seval, reduceCtorEq]
       try exact subH_self _
     · rintro ⟨k, x, vo, No⟩ ⟨hk, hx, ho, hf⟩
       dsimp only at hk hx ho hf ⊢
       rcases Nat.lt_or_ge k 8 with hlt | hge
       · have k8 : (k : Int) < 8 := by omega
         obtain ⟨d, hd0⟩ : ∃ d, d = digN w.num (8 * 2 + k) := ⟨_, rfl⟩
         have hd : d = x % 256 := by rw [hd0, dig_part w (by decide) hlt, hx]; rfl
         have e1 : (x : Int).tmod 256 = (d : Int) := by rw [hd]; rfl
         have hdl : d < 256 := by rw [hd]; omega
         obtain ⟨x2, hx2⟩ : ∃ x2 : Nat, x2 = x / 256 := ⟨_, rfl⟩
         have e2 : (x : Int).tdiv 256 = (x2 : Int) := by rw [hx2]; rfl
         have hxl : x2 < 18446744073709551616 := by
          have := w.hc
          have h3 : x ≤ w.c := by rw [hx]; exact Nat.div_le_self _ _
          omega
         simp only [push_cast, seval, reduceCtorEq, k8, e1, wrap_i64' (show -9223372036854775808 ≤ (d : Int) ∧ (d : Int) ≤ 9223372036854775807 by omega)]
         intro b10 hb10
         refine append_out1 (e := 3) (sz := 1) (by_ := 8) (n := 16 + k) (m := 1) (ys := [.int .i64 (d : Int)]) ho hb10 (by simp only [push_cast, seval, reduceCtorEq]) (by simp only [push_cast, seval, reduceCtorEq]) rfl rfl (by unfold two47; omega) fun v' N' ho' hf' => ?_
         simp only [push_cast, seval, reduceCtorEq, e2, wrap_u64' (n := (x2 : Int)) (by omega), wrap_i64' (show -9223372036854775808 ≤ (k : Int) + 1 ∧ (k : Int) + 1 ≤ 9223372036854775807 by omega)]
         refine ⟨(k + 1, x2, v', N'), ⟨by dsimp only; omega, ?_, ?_, freshN_cons hf'⟩, by dsimp only; omega, ⟨rfl, rfl, rfl⟩, ?_, ?_⟩
         · dsimp only; rw [hx2, hx, Nat.div_div_eq_div_mul, Nat.pow_succ]
         · dsimp only
           have hz : zs (digs w.num (16 + (k + 1))) = zs (digs w.num (16 + k)) ++ [.int .i64 (d : Int)] := by rw [← Nat.add_assoc, digs_succ, zs_app, hd0]; rfl
           rw [hz]
           exact ho'
         · exact subH_pre (subH_cons (fresh_app hb10)) _
         · simp only [marks_append, marksOf, ho.wr.2, ho'.wr.2]
       · obtain rfl : k = 8 := by omega
         simp only [push_cast, seval, reduceCtorEq, wrap_i64' (show -9223372036854775808 ≤ ((2 : Nat) : Int) + 1 ∧ ((2 : Nat) : Int) + 1 ≤ 9223372036854775807 by omega)]
         exact ⟨(3, vo, No), ⟨by dsimp only; omega, ho, hf⟩, by dsimp only; omega, ⟨rfl, rfl⟩, subH_self _, rfl⟩
   · simp only [push_cast, seval, reduceCtorEq, fb]
     refine loopO (noG_ok _) (pl := Tryz.pl134) Tryz.mix (X := Nat × Nat × Value × Hp)
      (fun s => ([(1, .pointer (some ⟨b1, 0, none⟩)), (3, s.2.2.1), (4, .int .i64 3), (5, .int .u64 s.2.1), (6, .int .i64 s.1)], s.2.2.2 ++ [⟨b1, 0, .cel 28, w.cells⟩]))
      (fun s => s.1 ≤ 8 ∧ s.2.1 = w.d / 256 ^ s.1 ∧ OutC 3 1 (zs (digs w.num (24 + s.1))) (24 + s.1) s.2.2.1 s.2.2.2 ∧ freshN s.2.2.2 [⟨b1, 0, .cel 28, w.cells⟩]) (fun s => 8 - s.1) (0, w.d, vo, No) ?_ ?_ (by kernel_rfl) ?_
     · exact ⟨by dsimp only; omega, by simp, ho, hf⟩
     · simp only [push_cast, seval, reduceCtorEq]
       try exact subH_self _
     · rintro ⟨k, x, vo, No⟩ ⟨hk, hx, ho, hf⟩
       dsimp only at hk hx ho hf ⊢
       rcases Nat.lt_or_ge k 8 with hlt | hge
       · have k8 : (k : Int) < 8 := by omega
         obtain ⟨d, hd0⟩ : ∃ d, d = digN w.num (8 * 3 + k) := ⟨_, rfl⟩
         have hd : d = x % 256 := by rw [hd0, dig_part w (by decide) hlt, hx]; rfl
         have e1 : (x : Int).tmod 256 = (d : Int) := by rw [hd]; rfl
         have hdl : d < 256 := by rw [hd]; omega
         obtain ⟨x2, hx2⟩ : ∃ x2 : Nat, x2 = x / 256 := ⟨_, rfl⟩
         have e2 : (x : Int).tdiv 256 = (x2 : Int) := by rw [hx2]; rfl
         have hxl : x2 < 18446744073709551616 := by
          have := w.hd
          have h3 : x ≤ w.d := by rw [hx]; exact Nat.div_le_self _ _
          omega
         simp only [push_cast, seval, reduceCtorEq, k8, e1, wrap_i64' (show -9223372036854775808 ≤ (d : Int) ∧ (d : Int) ≤ 9223372036854775807 by omega)]
         intro b10 hb10
         refine append_out1 (e := 3) (sz := 1) (by_ := 8) (n := 24 + k) (m := 1) (ys := [.int .i64 (d : Int)]) ho hb10 (by simp only [push_cast, seval, reduceCtorEq]) (by simp only [push_cast, seval, reduceCtorEq]) rfl rfl (by unfold two47; omega) fun v' N' ho' hf' => ?_
         simp only [push_cast, seval, reduceCtorEq, e2, wrap_u64' (n := (x2 : Int)) (by omega), wrap_i64' (show -9223372036854775808 ≤ (k : Int) + 1 ∧ (k : Int) + 1 ≤ 9223372036854775807 by omega)]
         refine ⟨(k + 1, x2, v', N'), ⟨by dsimp only; omega, ?_, ?_, freshN_cons hf'⟩, by dsimp only; omega, ⟨rfl, rfl, rfl⟩, ?_, ?_⟩
         · dsimp only; rw [hx2, hx, Nat.div_div_eq_div_mul, Nat.pow_succ]
         · dsimp only
           have hz : zs (digs w.num (24 + (k + 1))) = zs (digs w.num (24 + k)) ++ [.int .i64 (d : Int)] := by rw [← Nat.add_assoc, digs_succ, zs_app, hd0]; rfl
           rw [hz]
           exact ho'
         · exact subH_pre (subH_cons (fresh_app hb10)) _
         · simp only [marks_append, marksOf, ho.wr.2, ho'.wr.2]
       · obtain rfl : k = 8 := by omega
         simp only [push_cast, seval, reduceCtorEq, wrap_i64' (show -9223372036854775808 ≤ ((3 : Nat) : Int) + 1 ∧ ((3 : Nat) : Int) + 1 ≤ 9223372036854775807 by omega)]
         exact ⟨(4, vo, No), ⟨by dsimp only; omega, ho, hf⟩, by dsimp only; omega, ⟨rfl, rfl⟩, subH_self _, rfl⟩
   · simp only [push_cast, seval, reduceCtorEq]
     refine ⟨No, ?_, ho⟩
     rw [dropM_eq (by simp only [marks_append, marksOf, ho.wr.2, List.append_nil])]
     exact List.sublist_append_left _ _
end Go.Proofs.YtpcjmmdgopihcaaGreatDoor
namespace Go.Ev
end Go.Ev
namespace Go.Proofs.YtpcjmmdgopihcaaGreatDoor
open Go Go.Ev Go.Proofs
end Go.Proofs.YtpcjmmdgopihcaaGreatDoor
namespace Go.Ev
noncomputable def cut : Nat → Nat → Nat := hid fun x e => x / 256 ^ e
end Go.Ev
namespace Go.Proofs.YtpcjmmdgopihcaaGreatDoor
open Go Go.Ev Go.Proofs
end Go.Proofs.YtpcjmmdgopihcaaGreatDoor
namespace Go.Ev
end Go.Ev
namespace Go.Proofs.YtpcjmmdgopihcaaGreatDoor
open Go Go.Ev Go.Proofs
end Go.Proofs.YtpcjmmdgopihcaaGreatDoor
namespace Go.Ev
inductive Rd (α : Type) where
 | bad (e p : Nat)
 | ok (x : α) (a m : Nat)
end Go.Ev
namespace Go.Ev
set_option maxRecDepth 20000
mutual
def cntI : It → Nat
 | .mk _ _ ks => 1 + cntIs ks
def cntIs : List It → Nat
 | [] => 0
 | k :: r => cntI k + cntIs r
end
mutual
def okD : It → Nat → Bool
 | .mk l b ks, d => match d with
   | 0 => false
   | d + 1 => (if l then b.isEmpty else ks.isEmpty) && okDs ks d
def okDs : List It → Nat → Bool
 | [], _ => true
 | k :: r, d => okD k d && okDs r d
end
mutual
theorem all_okD : ∀ (x : It) (d : Nat), d ≤ 17 → (allI x d).all (fun p => decide (p.1 ≤ 16) && wfI p.2) = okD x (17 - d)
 | .mk l b ks, d, hd => by
   rw [allI, List.all_cons]
   by_cases h : 16 < d
   · rw [if_pos h, show 17 - d = 0 by omega, okD, decide_eq_false (by omega)]; rfl
   · obtain ⟨k, hk⟩ : ∃ k, 17 - d = k + 1 := ⟨17 - d - 1, by omega⟩
     rw [if_neg h, all_okDs ks (d + 1) (by omega), hk, okD, show 17 - (d + 1) = k by omega, decide_eq_true (by omega), Bool.true_and]
     rfl
theorem all_okDs : ∀ (ks : List It) (d : Nat), d ≤ 17 → (allIs ks d).all (fun p => decide (p.1 ≤ 16) && wfI p.2) = okDs ks (17 - d)
 | [], d, hd => by rw [allIs, okDs]; rfl
 | k :: r, d, hd => by rw [allIs, List.all_append, all_okD k d hd, all_okDs r d hd, okDs]
end
mutual
theorem all_cnt : ∀ (x : It) (d : Nat), d ≤ 17 → okD x (17 - d) = true → (allI x d).length = cntI x
 | .mk l b ks, d, hd, h => by
   by_cases h16 : 16 < d
   · rw [show 17 - d = 0 by omega, okD] at h; cases h
   · obtain ⟨k, hk⟩ : ∃ k, 17 - d = k + 1 := ⟨17 - d - 1, by omega⟩
     rw [hk, okD, Bool.and_eq_true] at h
     rw [allI, if_neg h16, List.length_cons, all_cnts ks (d + 1) (by omega) (by rw [show 17 - (d + 1) = k by omega]; exact h.2), cntI, Nat.add_comm]
theorem all_cnts : ∀ (ks : List It) (d : Nat), d ≤ 17 → okDs ks (17 - d) = true → (allIs ks d).length = cntIs ks
 | [], d, hd, _ => by rw [allIs, cntIs]; rfl
 | k :: r, d, hd, h => by
   rw [okDs, Bool.and_eq_true] at h
   rw [allIs, List.length_append, all_cnt k d hd h.1, all_cnts r d hd h.2, cntIs]
end
theorem rightI_eq (x : It) : rightI x = (okD x 16 && decide (cntI x ≤ 5000)) := by
 unfold rightI
 rw [all_okD x 1 (by decide)]
 show (_ && okD x 16) = _
 cases h : okD x 16 with
 | false => rw [Bool.and_false, Bool.false_and]
 | true => rw [all_cnt x 1 (by decide) h, Bool.and_true, Bool.true_and]
end Go.Ev
namespace Go.Ev
end Go.Ev
namespace Go.Proofs.YtpcjmmdgopihcaaGreatDoor
open Go Go.Ev Go.Proofs
end Go.Proofs.YtpcjmmdgopihcaaGreatDoor
namespace Go.Ev
theorem W.ceqC (x y : W) : Go.Ev.eqC [.i, .i, .i, .i] x.cells y.cells = some (decide (x = y)) := by
 have h : ∀ (p q r s : Bool) (P : Prop) [Decidable P], (P ↔ (p = true ∧ q = true ∧ r = true ∧ s = true)) → (p && (q && (r && (s && true)))) = decide P := by
  intro p q r s P _ hh
  cases p <;> cases q <;> cases r <;> cases s <;> simp_all
 simp only [W.cells, Go.Ev.eqC, if_true, Option.map_some, Option.some.injEq]
 refine h _ _ _ _ _ ⟨fun h => by subst h; simp, fun h => ?_⟩
 simp only [beq_iff_eq] at h
 exact W.eq (by omega) (by omega) (by omega) (by omega)
theorem W.ceqV {P : Program} {t : TypeId} (x y : W) (h1 : tyI P t = some (4, true)) (h2 : P.eqGuardType P.depth t = false) (h3 : flatK P 12 t = some [.i, .i, .i, .i]) : Go.Ev.eqV P t x.v y.v = some (decide (x = y)) := by
 unfold Go.Ev.eqV W.v
 simp only [h1, h2, h3, Bool.false_eq_true, if_false, Option.bind_some]
 exact W.ceqC x y
theorem W.ceql {P : Program} {t : TypeId} (x y : W) (h1 : tyI P t = some (4, true)) (h2 : P.eqGuardType P.depth t = false) (h3 : flatK P 12 t = some [.i, .i, .i, .i]) : binQ P .eql t x.v y.v = some (.bool (decide (x = y))) := by
 show (Go.Ev.eqV P t x.v y.v).map Value.bool = _
 rw [W.ceqV x y h1 h2 h3]; rfl
theorem W.cneq {P : Program} {t : TypeId} (x y : W) (h1 : tyI P t = some (4, true)) (h2 : P.eqGuardType P.depth t = false) (h3 : flatK P 12 t = some [.i, .i, .i, .i]) : binQ P .neq t x.v y.v = some (.bool (!decide (x = y))) := by
 show (Go.Ev.eqV P t x.v y.v).map (fun r => Value.bool !r) = _
 rw [W.ceqV x y h1 h2 h3]; rfl
attribute [push_cast] W.ceql W.cneq
end Go.Ev
namespace Go.Proofs.YtpcjmmdgopihcaaGreatDoor
open Go Go.Ev Go.Proofs
end Go.Proofs.YtpcjmmdgopihcaaGreatDoor
namespace Go.Proofs.YtpcjmmdgopihcaaGreatDoor
open Go Go.Ev Go.Proofs
theorem refBytes (w : W) : CallsV Tryz.prog 113 [w.v] [] (Ret0 (.string ⟨(wbytes w).toArray⟩)) := by
 refine callsO (noG_ok _) Tryz.mix Tryz.pl113 Tryz.func113 rfl Tryz.ntmps113 Tryz.results113 rfl (by first | rfl | assumption) (Nat.le_of_ble_eq_true rfl) (by kernel_rfl) ?_
 simp only [push_cast, seval, reduceCtorEq]
 intro b1
 refine (digits_ok w).use trivial fun v1 N1 ho1 => ⟨ho1.wr.1, ho1.wr.2, fun hf1 => ?_⟩
 obtain ⟨bx, cx, rfl, hcx, -, rfl⟩ := ho1.pos (by decide)
 simp only [push_cast, seval, reduceCtorEq] at hf1
 obtain ⟨Ex, hEx⟩ : ∃ e : Ent, e = ⟨bx, 0, .vec 3 1 cx, zs (digs w.num 32)⟩ := ⟨_, rfl⟩
 have Exk : Ex.kind = .vec 3 1 cx := by rw [hEx]
 have Exb : Ex.blk = bx := by rw [hEx]
 have Exo : Ex.off = 0 := by rw [hEx]
 have Exl : Ex.cells.length = 32 := by rw [hEx]; show (zs _).length = 32; rw [zs_len, digs_len]
 have Exm : marksOf [Ex] = [] := by rw [hEx]; rfl
 rw [← hEx]
 simp only [push_cast, seval, reduceCtorEq, hf1, Exb, Exk]
 refine loopO (noG_ok _) (pl := Tryz.pl113) Tryz.mix (X := Nat × Value × Hp)
  (fun s => ([(3, .slice (some ⟨bx, 0, none⟩) 32 cx), (4, s.2.1), (5, .int .i64 ((s.1 : Int) - 1))], s.2.2 ++ [Ex]))
  (fun s => s.1 ≤ 32 ∧ OutC 5 1 (byteV ((wbytes w).take (32 - s.1))) (32 - s.1) s.2.1 s.2.2 ∧ freshN s.2.2 [Ex]) (fun s => s.1) (32, .slice none 0 0, []) ?_ ?_ (by kernel_rfl) ?_
 · exact ⟨Nat.le_refl _, .nil _ _, trivial⟩
 · simp only [push_cast, seval, reduceCtorEq, hf1, Exb, Exk]
   done
 · rintro ⟨s, vo, No⟩ ⟨hi, ho, hf⟩
   dsimp only at hi ho hf ⊢
   have f0 : findE [Ex] bx = some Ex := by simp [findE, Exb]
   have fb : findE (No ++ [Ex]) bx = some Ex := by rw [findE_freshN hf f0]; exact f0
   rcases Nat.eq_zero_or_pos s with rfl | h0
   · obtain ⟨bz, cz, rfl, hcz, hzl, rfl⟩ := ho.pos (by decide)
     have hw := wbytes_len w
     have hbo := bytesOf_byteV (wbytes w)
     have e32 : List.take (32 - 0) (wbytes w) = wbytes w := List.take_of_length_le (by rw [hw]; exact Nat.le_refl _)
     have htk : List.take 32 (byteV (wbytes w)) = byteV (wbytes w) := List.take_of_length_le (by rw [byteV_len, hw]; exact Nat.le_refl _)
     have hbl : (byteV (wbytes w)).length = 32 := by rw [byteV_len, hw]
     rw [e32]
     simp only [push_cast, seval, reduceCtorEq, strOfV, htk, hbl, hbo]
     done
   · obtain ⟨i, rfl⟩ : ∃ i, s = i + 1 := ⟨s - 1, by omega⟩
     have ej : ((i + 1 : Nat) : Int) - 1 = (i : Int) := by omega
     have i0 : (0 : Int) ≤ (i : Int) := by omega
     have i1 : (i : Int) < 32 := by omega
     have i2 : i + 1 ≤ 32 := by omega
     rw [ej]
     have hdl := digN_lt w.num i
     have hat : List.take 1 (List.drop i Ex.cells) = [.int .i64 ((digN w.num i : Nat) : Int)] := by
      rw [hEx]
      show List.take 1 (List.drop i (zs (digs w.num 32))) = _
      have hl : i < (digs w.num 32).length := by rw [digs_len]; omega
      unfold zs
      rw [← List.map_drop, ← List.map_take, List.drop_eq_getElem_cons hl, List.take_succ_cons, List.take_zero, List.map_cons, List.map_nil]
      simp [digs]
     have hk1 : 31 - i < (wbytes w).length := by rw [wbytes_len]; omega
     have hby := byteV_take (wbytes w) hk1
     have hge : (wbytes w)[31 - i] = UInt8.ofNat (digN w.num i) := by
      have := wbytes_at w (j := 31 - i) (by omega)
      rw [List.getElem?_eq_getElem hk1, show 31 - (31 - i) = i by omega] at this
      exact Option.some.inj this
     rw [hge, ofNat_dig, show 31 - i + 1 = 32 - i by omega, show 31 - i = 32 - (i + 1) by omega] at hby
     simp only [push_cast, seval, reduceCtorEq, fb, i0, i1, i2, hat, Exk, Exo, Exl, wrap_u8' (n := ((digN w.num i : Nat) : Int)) (by omega)]
     intro b10 hb10
     refine append_out1 (e := 5) (sz := 1) (by_ := 1) (n := 32 - (i + 1)) (m := 1) (ys := [.int .u8 ((digN w.num i : Nat) : Int)]) ho hb10 (by simp only [push_cast, seval, reduceCtorEq]) (by simp only [push_cast, seval, reduceCtorEq]) rfl rfl (by unfold two47; omega) fun v' N' ho' hf' => ?_
     simp only [push_cast, seval, reduceCtorEq, wrap_i64' (show -9223372036854775808 ≤ (i : Int) - 1 ∧ (i : Int) - 1 ≤ 9223372036854775807 by omega)]
     refine ⟨(i, v', N'), ⟨by dsimp only; omega, ?_, freshN_cons hf'⟩, by dsimp only; omega, ⟨rfl, rfl⟩, subH_pre (subH_cons (fresh_app hb10)) _, ?_⟩
     · dsimp only
       rw [hby, show 32 - i = 32 - (i + 1) + 1 by omega]
       exact ho'
     · simp only [marks_append, marksOf, ho.wr.2, ho'.wr.2]
end Go.Proofs.YtpcjmmdgopihcaaGreatDoor
namespace Go.Ev
end Go.Ev
namespace Go.Proofs.YtpcjmmdgopihcaaGreatDoor
open Go Go.Ev Go.Proofs
end Go.Proofs.YtpcjmmdgopihcaaGreatDoor
namespace Go.Ev
end Go.Ev
namespace Go.Proofs.YtpcjmmdgopihcaaGreatDoor
open Go Go.Ev Go.Proofs
end Go.Proofs.YtpcjmmdgopihcaaGreatDoor
namespace Go.Ev
theorem ne10 : ((1 : Int) != 0) = true := rfl
theorem ne00 : ((0 : Int) != 0) = false := rfl
theorem eq10 : ((1 : Int) == 0) = false := rfl
theorem eq00 : ((0 : Int) == 0) = true := rfl
attribute [push_cast] ne10 ne00 eq10 eq00
end Go.Ev
namespace Go.Proofs.YtpcjmmdgopihcaaGreatDoor
open Go Go.Ev Go.Proofs
theorem refBytesG (args : List Value) (v : Value) (h : wbytesG args = some v) : CallsV Tryz.prog 113 args [] (Ret0 v) := by
 obtain ⟨x, rfl, rfl⟩ := wun_some (g := fun a => .string ⟨(wbytes a).toArray⟩) (by funext l; rfl) h
 exact refBytes x
end Go.Proofs.YtpcjmmdgopihcaaGreatDoor
namespace Go.Ev
end Go.Ev
namespace Go.Proofs.YtpcjmmdgopihcaaGreatDoor
open Go Go.Ev Go.Proofs
theorem isIf_error : isIf Tryz.prog 154 = true := by kernel_rfl
attribute [push_cast] isIf_error
noncomputable def gO1 : Gam := gN3
attribute [push_cast] gO1
theorem gO1_ok : GamOk Tryz.prog gO1 := gN3_ok
attribute [push_cast] gO1
end Go.Proofs.YtpcjmmdgopihcaaGreatDoor
namespace Go.Ev
def rlistPG : List Value → Option Value
 | [.slice p n c] => some (.agg #[.bool true, .string (bs []), .slice p n c])
 | _ => none
attribute [push_cast] rlistPG
end Go.Ev
namespace Go.Proofs.YtpcjmmdgopihcaaGreatDoor
open Go Go.Ev Go.Proofs
theorem rlistP_ok (p : Option Addr) (n c : Nat) : CallsV Tryz.prog 53 [.slice p n c] [] (Ret0 (.agg #[.bool true, .string (bs []), .slice p n c])) := by
 refine callsO gO1_ok Tryz.mix Tryz.pl53 Tryz.func53 rfl Tryz.ntmps53 Tryz.results53 rfl (by first | rfl | assumption) (Nat.le_of_ble_eq_true rfl) (by kernel_rfl) ?_
 simp only [push_cast, seval, reduceCtorEq]
 rfl
theorem rlistPG_ok (args : List Value) (v : Value) (h : rlistPG args = some v) : CallsV Tryz.prog 53 args [] (Ret0 v) := by
 unfold rlistPG at h
 split at h
 · cases h; exact rlistP_ok _ _ _
 · cases h
noncomputable def gO2 : Gam := (addG 53 rlistPG gO1)
attribute [push_cast] gO2
theorem gO2_ok : GamOk Tryz.prog gO2 := (addG_ok rlistPG_ok gO1_ok)
attribute [push_cast] gO2
end Go.Proofs.YtpcjmmdgopihcaaGreatDoor
namespace Go.Ev
end Go.Ev
namespace Go.Proofs.YtpcjmmdgopihcaaGreatDoor
open Go Go.Ev Go.Proofs
end Go.Proofs.YtpcjmmdgopihcaaGreatDoor
namespace Go.Ev
end Go.Ev
namespace Go.Ev
end Go.Ev
namespace Go.Proofs.YtpcjmmdgopihcaaGreatDoor
open Go Go.Ev Go.Proofs
end Go.Proofs.YtpcjmmdgopihcaaGreatDoor
namespace Go.Ev
noncomputable def encD (x : It) : List UInt8 × Int := if rightI x = true then (if (encL x).length ≤ 1048576 then (encL x, 0) else ([], 2)) else ([], 1)
end Go.Ev
namespace Go.Proofs.YtpcjmmdgopihcaaGreatDoor
open Go Go.Ev Go.Proofs
noncomputable def gO3 : Gam := gO2
attribute [push_cast] gO3
theorem gO3_ok : GamOk Tryz.prog gO3 := gO2_ok
attribute [push_cast] gO3
end Go.Proofs.YtpcjmmdgopihcaaGreatDoor
namespace Go.Ev
end Go.Ev
namespace Go.Proofs.YtpcjmmdgopihcaaGreatDoor
open Go Go.Ev Go.Proofs
theorem refOfNG (args : List Value) (v : Value) (h : ofNG args = some v) : CallsV Tryz.prog 29 args [] (Ret0 v) := by
 unfold ofNG at h
 split at h
 · split at h
   · rename_i n hn; cases h; exact refOf n hn
   · cases h
 · cases h
noncomputable def gO4 : Gam := (addG 29 ofNG gO3)
attribute [push_cast] gO4
theorem gO4_ok : GamOk Tryz.prog gO4 := (addG_ok refOfNG gO3_ok)
attribute [push_cast] gO4
end Go.Proofs.YtpcjmmdgopihcaaGreatDoor
namespace Go.Ev
theorem numL_step {y : UInt8} {r : List UInt8} : List.dropWhile (fun b : UInt8 => b == 0) (y :: r) = if y = 0 then List.dropWhile (fun b : UInt8 => b == 0) r else y :: r := by
 rw [List.dropWhile_cons]
 by_cases h : y = 0
 · rw [if_pos (by simp [h]), if_pos h]
 · rw [if_neg (by simp [h]), if_neg h]
end Go.Ev
namespace Go.Proofs.YtpcjmmdgopihcaaGreatDoor
open Go Go.Ev Go.Proofs
noncomputable def gO6 : Gam := (addG 113 wbytesG gO4)
attribute [push_cast] gO6
theorem gO6_ok : GamOk Tryz.prog gO6 := (addG_ok refBytesG gO4_ok)
attribute [push_cast] gO6
theorem refNum6_ok (w : W) : CallsV Tryz.prog 87 [w.v] [] (Ret0 (.agg #[.bool false, .string (bs (numL w)), .slice none 0 0])) := by
 obtain ⟨R, hR⟩ : ∃ R, R = numL w := ⟨_, rfl⟩
 rw [← hR]
 unfold numL at hR
 have wl := wbytes_len w
 obtain ⟨l, hl⟩ : ∃ l, l = wbytes w := ⟨_, rfl⟩
 rw [← hl] at hR wl
 refine callsO gO6_ok Tryz.mix Tryz.pl87 Tryz.func87 rfl Tryz.ntmps87 Tryz.results87 rfl (by first | rfl | assumption) (Nat.le_of_ble_eq_true rfl) (by kernel_rfl) ?_
 simp only [push_cast, seval, reduceCtorEq]
 intro b1 b2 hb2
 simp only [push_cast, seval, reduceCtorEq, hb2, ← hl, bs_mk]
 refine loopO gO6_ok (pl := Tryz.pl87) Tryz.mix (X := List UInt8)
  (fun x => ([(1, .pointer (some ⟨b1, 0, none⟩)), (2, .pointer (some ⟨b2, 0, none⟩)), (3, .string (bs x))], [⟨b2, 0, .cel 90, [.bool false, .string ByteArray.empty, .slice none 0 0]⟩]))
  (fun x => x.dropWhile (fun b : UInt8 => b == 0) = R ∧ x.length ≤ 32) (fun x => x.length) l ?_ ?_ (by kernel_rfl) ?_
 · exact ⟨hR.symm, by omega⟩
 · simp only [push_cast, seval, reduceCtorEq, hb2, bs_mk]
 · rintro x ⟨hx, hlen⟩
   dsimp only at hx hlen ⊢
   have e1 : ByteArray.toList { data := #[] } = [] := bs_toList []
   cases x with
   | nil =>
     have e : R = [] := by rw [← hx]; rfl
     simp only [push_cast, seval, reduceCtorEq, e1, e]
   | cons y r =>
     obtain ⟨z, hz⟩ : ∃ z, z = y :: r := ⟨_, rfl⟩
     have zl : z.length = r.length + 1 := by rw [hz]; rfl
     have c2 : 0 < z.length := by omega
     have c1 : (0 : Int) < (z.length : Int) := by omega
     have c3 : 1 ≤ z.length := by omega
     have c4 : (1 : Int) ≤ (z.length : Int) := by omega
     have b0 : (bs z).data[0]? = some y := by rw [nbs_idx c2]; subst hz; rfl
     have dr : List.take (z.length - 1) (List.drop 1 z) = r := by rw [hz]; show List.take (r.length + 1 - 1) r = r; exact List.take_of_length_le (by omega)
     have ne : (z == []) = false := by rw [hz]; rfl
     rw [numL_step] at hx
     rw [← hz] at hx ⊢
     by_cases hy : y = 0
     · have e : ((y.toNat : Int) == 0) = true := by rw [hy]; rfl
       rw [if_pos hy] at hx
       simp only [push_cast, seval, reduceCtorEq, e1, ne, c1, c2, c3, c4, b0, e, dr]
       exact ⟨r, ⟨hx, by rw [List.length_cons] at hlen; omega⟩, by omega, rfl⟩
     · have e : ((y.toNat : Int) == 0) = false := beq_eq_false_iff_ne.2 fun h => hy (UInt8.toNat_inj.1 (show y.toNat = 0 by omega))
       rw [if_neg hy] at hx
       simp only [push_cast, seval, reduceCtorEq, e1, ne, c1, c2, c3, c4, b0, e]
       rw [hx]
theorem refNum6G_ok (args : List Value) (v : Value) (h : rnumG args = some v) : CallsV Tryz.prog 87 args [] (Ret0 v) := by
 unfold rnumG at h
 split at h
 · rename_i x
   cases hx : wOf x with
   | none => simp [hx] at h
   | some a => simp only [hx, Option.bind_some, Option.some.injEq] at h; rw [wOf_some hx, ← h]; exact refNum6_ok a
 · cases h
noncomputable def gO7 : Gam := (addG 87 rnumG gO6)
attribute [push_cast] gO7
theorem gO7_ok : GamOk Tryz.prog gO7 := (addG_ok refNum6G_ok gO6_ok)
attribute [push_cast] gO7
end Go.Proofs.YtpcjmmdgopihcaaGreatDoor
namespace Go.Ev
mutual
def manyI : It → Nat → Nat
 | .mk _ _ ks, most => manyIs ks most 1
def manyIs : List It → Nat → Nat → Nat
 | [], _, n => n
 | k :: r, most, n => if n < most then manyIs r most (n + manyI k (most - n)) else n
end
theorem cntI_pos8 : ∀ x : It, 0 < cntI x
 | .mk _ _ ks => by rw [cntI]; omega
theorem manyI_eq (x : It) (most : Nat) : manyI x most = manyIs x.kids most 1 := by cases x; rw [manyI]; rfl
mutual
theorem manyI_le : ∀ (x : It) (most : Nat), 1 ≤ most → manyI x most ≤ most
 | .mk _ _ ks, most, h => by rw [manyI]; exact manyIs_le ks most 1 h
theorem manyIs_le : ∀ (ks : List It) (most n : Nat), n ≤ most → manyIs ks most n ≤ most
 | [], most, n, h => by rw [manyIs]; exact h
 | k :: r, most, n, h => by
   rw [manyIs]
   split
   · have := manyI_le k (most - n) (by omega)
     exact manyIs_le r most _ (by omega)
   · exact h
end
mutual
theorem manyI_cnt : ∀ (x : It) (most : Nat), 1 ≤ most → (cntI x ≤ most → manyI x most = cntI x) ∧ (most < cntI x → manyI x most = most)
 | .mk _ _ ks, most, h => by
   obtain ⟨h1, h2⟩ := manyIs_cnt ks most 1 h
   rw [manyI, cntI]
   exact ⟨h1, h2⟩
theorem manyIs_cnt : ∀ (ks : List It) (most n : Nat), n ≤ most → (n + cntIs ks ≤ most → manyIs ks most n = n + cntIs ks) ∧ (most < n + cntIs ks → manyIs ks most n = most)
 | [], most, n, h => by rw [manyIs, cntIs]; exact ⟨fun _ => rfl, fun h2 => by omega⟩
 | k :: r, most, n, h => by
   have hp := cntI_pos8 k
   rw [manyIs, cntIs]
   split
   · rename_i hlt
     obtain ⟨k1, k2⟩ := manyI_cnt k (most - n) (by omega)
     rcases Nat.lt_or_ge (most - n) (cntI k) with hk | hk
     · rw [k2 hk, show n + (most - n) = most by omega]
       obtain ⟨r1, r2⟩ := manyIs_cnt r most most (Nat.le_refl _)
       refine ⟨fun h2 => by omega, fun _ => ?_⟩
       rcases Nat.eq_zero_or_pos (cntIs r) with h0 | h0
       · rw [r1 (by omega), h0]; rfl
       · exact r2 (by omega)
     · rw [k1 hk]
       obtain ⟨r1, r2⟩ := manyIs_cnt r most (n + cntI k) (by omega)
       exact ⟨fun h2 => by rw [r1 (by omega)]; omega, fun h2 => r2 (by omega)⟩
   · exact ⟨fun h2 => by omega, fun h2 => by omega⟩
end
theorem rightI_doc (x : It) : rightI x = (decide (manyI x 5001 ≤ 5000) && okD x 16) := by
 rw [rightI_eq, Bool.and_comm]
 congr 1
 rw [decide_eq_decide]
 obtain ⟨h1, h2⟩ := manyI_cnt x 5001 (by decide)
 constructor
 · intro h; rw [h1 (by omega)]; exact h
 · intro h
   rcases Nat.lt_or_ge 5001 (cntI x) with h3 | h3
   · rw [h2 h3] at h; omega
   · rw [h1 h3] at h; exact h
theorem okD_eq (x : It) (d : Nat) : okD x (d + 1) = ((if x.list then x.bytes.isEmpty else x.kids.isEmpty) && okDs x.kids d) := by cases x; rw [okD]; rfl
theorem okDs_take {ks : List It} {d i : Nat} {k : It} (h : ks[i]? = some k) : okDs (ks.take (i + 1)) d = (okDs (ks.take i) d && okD k d) := by
 induction ks generalizing i with
 | nil => simp at h
 | cons y r ih =>
   cases i with
   | zero => simp only [List.getElem?_cons_zero, Option.some.injEq] at h; subst h; simp [okDs]
   | succ i =>
     rw [List.getElem?_cons_succ] at h
     rw [List.take_succ_cons, okDs, ih h, List.take_succ_cons, okDs, Bool.and_assoc]
theorem okDs_not {ks : List It} {d i : Nat} {k : It} (h : ks[i]? = some k) (hn : okD k d = false) : okDs ks d = false := by
 induction ks generalizing i with
 | nil => simp at h
 | cons y r ih =>
   cases i with
   | zero => simp only [List.getElem?_cons_zero, Option.some.injEq] at h; subst h; rw [okDs, hn, Bool.false_and]
   | succ i =>
     rw [List.getElem?_cons_succ] at h
     rw [okDs, ih h, Bool.and_false]
end Go.Ev
namespace Go.Proofs.YtpcjmmdgopihcaaGreatDoor
open Go Go.Ev Go.Proofs
theorem refhead_ok (k n : Nat) (hk : k = 128 ∨ k = 192) (hn : n ≤ 1099511627776) : CallsV Tryz.prog 112 [.int .i64 k, .int .i64 n] [] (Ret0 (.string (headK k n))) := by
 rw [headK_eq]
 obtain ⟨R, hR⟩ : ∃ R, R = headL k n := ⟨_, rfl⟩
 rw [← hR]
 unfold headL at hR
 have w0 : IntKind.i64.wrap ((k : Int) + (n : Int)) = ((k + n : Nat) : Int) := by rw [Int.natCast_add]; exact IntWalk.i64_in _ (by omega)
 by_cases hc : n ≤ 55
 · rw [if_pos hc] at hR
   have c1 : (n : Int) ≤ 55 := by omega
   have w1 := u8_wrapN (k + n)
   have hb : bytesOf [.int .u8 ((UInt8.ofNat (k + n)).toNat : Int)] = some [UInt8.ofNat (k + n)] := bytesOf_byteV [UInt8.ofNat (k + n)]
   obtain ⟨c, hc'⟩ : ∃ c, c = UInt8.ofNat (k + n) := ⟨_, rfl⟩
   rw [← hc'] at w1 hb hR
   obtain ⟨m, hm⟩ : ∃ m, m = k + n := ⟨_, rfl⟩
   rw [← hm] at w0 w1
   refine callsO gO7_ok Tryz.mix Tryz.pl112 Tryz.func112 rfl Tryz.ntmps112 Tryz.results112 rfl (by first | rfl | assumption) (Nat.le_of_ble_eq_true rfl) (by kernel_rfl) ?_
   simp only [push_cast, seval, reduceCtorEq, c1, w0, w1, hb]
   rw [hR]; rfl
 · rw [if_neg hc] at hR
   have c1 : ¬ (n : Int) ≤ 55 := by omega
   have nl := numL_len (W.ofInt (n : Int))
   obtain ⟨D, hD⟩ : ∃ D, D = numL (W.ofInt (n : Int)) := ⟨_, rfl⟩
   rw [← hD] at hR nl
   obtain ⟨w, hw⟩ : ∃ w, w = W.ofInt (n : Int) := ⟨_, rfl⟩
   rw [← hw] at hD
   have w1 := u8_wrapN (k + 55 + D.length)
   have hb : bytesOf [.int .u8 ((UInt8.ofNat (k + 55 + D.length)).toNat : Int)] = some [UInt8.ofNat (k + 55 + D.length)] := bytesOf_byteV [UInt8.ofNat (k + 55 + D.length)]
   obtain ⟨c, hc'⟩ : ∃ c, c = UInt8.ofNat (k + 55 + D.length) := ⟨_, rfl⟩
   rw [← hc'] at w1 hb hR
   have w2 : IntKind.i64.wrap ((k : Int) + 55) = (k : Int) + 55 := IntWalk.i64_in _ (by omega)
   have w3 : IntKind.i64.wrap ((k : Int) + 55 + (D.length : Int)) = ((k + 55 + D.length : Nat) : Int) := by
    rw [show (k : Int) + 55 + (D.length : Int) = ((k + 55 + D.length : Nat) : Int) by omega]; exact IntWalk.i64_in _ (by omega)
   obtain ⟨m, hm⟩ : ∃ m, m = k + 55 + D.length := ⟨_, rfl⟩
   rw [← hm] at w1 w3
   have n1 : -9223372036854775808 ≤ (n : Int) := by omega
   have n2 : (n : Int) ≤ 9223372036854775807 := by omega
   have hcat : catB (bs [c]) (bs D) = some (.string (bs R)) := by rw [ncatB [c] D (by show 1 + _ ≤ _; omega), hR]; rfl
   refine callsO gO7_ok Tryz.mix Tryz.pl112 Tryz.func112 rfl Tryz.ntmps112 Tryz.results112 rfl (by first | rfl | assumption) (Nat.le_of_ble_eq_true rfl) (by kernel_rfl) ?_
   simp only [push_cast, seval, reduceCtorEq, c1, n1, n2, ← hw, ← hD, w1, w2, w3, hb, bs_mk, hcat]
theorem refheadG_ok (args : List Value) (v : Value) (h : headG args = some v) : CallsV Tryz.prog 112 args [] (Ret0 v) := by
 unfold headG at h
 split at h
 · rename_i k n
   split at h
   · rename_i hc
     obtain ⟨h1, h2, h3⟩ := hc
     cases h
     obtain ⟨k', rfl⟩ : ∃ k' : Nat, k = (k' : Int) := ⟨k.toNat, by omega⟩
     obtain ⟨n', rfl⟩ : ∃ n' : Nat, n = (n' : Int) := ⟨n.toNat, by omega⟩
     exact refhead_ok k' n' (by omega) (by omega)
   · cases h
 · cases h
noncomputable def gO8 : Gam := (addG 112 headG gO7)
attribute [push_cast] gO8
theorem gO8_ok : GamOk Tryz.prog gO8 := (addG_ok refheadG_ok gO7_ok)
attribute [push_cast] gO8
theorem refmany_ok (x : Iv) : ∀ (most : Nat) (M0 : Hp), 1 ≤ most → most ≤ 1099511627776 → roM M0 → IvOk M0 x → CallsV Tryz.prog 110 [x.v, .int .i64 (most : Int)] M0 (Ret0 (.int .i64 (manyI x.it most : Nat))) := by
 induction x using Iv.ind with
 | h x ih =>
   intro most M0 hm1 hm2 hr hx
   have hm := hr.marks
   have e := manyI_eq x.it most
   rw [Iv.it_kids] at e
   have hli := hx.li
   have hkids := hx.kid
   have hlen := hx.len
   obtain ⟨xl, xb, xs, xk⟩ := x
   replace hli : LiR Iv.cells 3 M0 xk xs := hli
   replace hkids : ∀ k ∈ xk, IvOk M0 k := hkids
   replace hlen : xk.length ≤ 1099511627776 := hlen
   replace ih : ∀ k ∈ xk, ∀ (most : Nat) (M0 : Hp), 1 ≤ most → most ≤ 1099511627776 → roM M0 → IvOk M0 k → CallsV Tryz.prog 110 [k.v, .int .i64 (most : Int)] M0 (Ret0 (.int .i64 (manyI k.it most : Nat))) := ih
   obtain ⟨p, c, rfl, hla⟩ := hli.openC Iv.len (by decide)
   replace e : manyI (Iv.mk xl xb (.slice p xk.length c) xk).it most = manyIs (xk.map Iv.it) most 1 := e
   obtain ⟨R, hR⟩ : ∃ R, R = manyIs (xk.map Iv.it) most 1 := ⟨_, rfl⟩
   rw [e, ← hR]
   show CallsV Tryz.prog _ [.agg #[.bool xl, .string (bs xb), .slice p xk.length c], _] M0 _
   refine callsO gO8_ok Tryz.mix Tryz.pl110 Tryz.func110 rfl Tryz.ntmps110 Tryz.results110 rfl (by first | rfl | assumption) (Nat.le_of_ble_eq_true rfl) (by kernel_rfl) ?_
   simp only [push_cast, seval, reduceCtorEq]
   intro b2 hb2
   refine loopO gO8_ok (pl := Tryz.pl110) Tryz.mix (X := Nat × Nat)
    (fun s => ([(1, .int .i64 (most : Int)), (2, .pointer (some ⟨b2, 0, none⟩)), (5, .int .i64 (s.2 : Int)), (6, .int .i64 (s.1 : Int))], ⟨b2, 0, .cel 90, [.bool xl, .string (bs xb), .slice p xk.length c]⟩ :: M0))
    (fun s => s.1 ≤ xk.length ∧ s.2 ≤ most ∧ manyIs ((xk.drop s.1).map Iv.it) most s.2 = R) (fun s => xk.length - s.1) (0, 1) ?_ ?_ (by kernel_rfl) ?_
   · exact ⟨Nat.zero_le _, hm1, hR.symm⟩
   · simp only [push_cast, seval, reduceCtorEq, subH_self]
   · rintro ⟨i, n⟩ ⟨hi, hn, hRi⟩
     dsimp only at hi hn hRi ⊢
     rcases Nat.lt_or_ge i xk.length with hlt | hge
     · have i1 : (i : Int) < (xk.length : Int) := by omega
       obtain ⟨k, hk⟩ : ∃ k, xk[i]? = some k := ⟨xk[i], List.getElem?_eq_getElem hlt⟩
       have hkm := List.mem_of_getElem? hk
       have hd0 : xk.drop i = k :: xk.drop (i + 1) := by
        obtain ⟨h1, h2⟩ := List.getElem?_eq_some_iff.1 hk
        rw [List.drop_eq_getElem_cons h1, h2]
       rw [hd0, List.map_cons, manyIs] at hRi
       by_cases hnm : n < most
       · have n1 : (n : Int) < (most : Int) := by omega
         rw [if_pos hnm] at hRi
         rcases hla with rfl | ⟨b, f, d, kd, cs, rfl, he, hat⟩
         · simp at hk
         obtain ⟨a1, a2⟩ := hat i k hk
         have nb := (fresh_findS hb2 he).2
         have kc : k.cells.all oneC = true := Iv.all1 (hkids k hkm).one
         have kv : Value.agg k.cells.toArray = k.v := rfl
         have w1 : IntKind.i64.wrap ((most : Int) - (n : Int)) = ((most - n : Nat) : Int) := by rw [show (most : Int) - (n : Int) = ((most - n : Nat) : Int) by omega]; exact IntWalk.i64_in _ (by omega)
         have hle := manyI_le k.it (most - n) (by omega)
         simp only [push_cast, seval, reduceCtorEq, i1, hlt, n1, nb, he, a1, a2, kc, kv, Iv.len, w1]
         refine useP [_] (M := M0) (fun M1 hr1 he1 => ih k hkm (most - n) M1 (by omega) (by omega) hr1 ((hkids k hkm).congr he1.symm)) ⟨hb2, trivial⟩ ?_
         obtain ⟨q, hq⟩ : ∃ q, q = manyI k.it (most - n) := ⟨_, rfl⟩
         rw [← hq] at hle hRi ⊢
         simp only [push_cast, seval, reduceCtorEq, wrap_i64' (show -9223372036854775808 ≤ (n : Int) + (q : Int) ∧ (n : Int) + (q : Int) ≤ 9223372036854775807 by omega), wrap_i64' (show -9223372036854775808 ≤ (i : Int) + 1 ∧ (i : Int) + 1 ≤ 9223372036854775807 by omega)]
         exact ⟨(i + 1, n + q), ⟨hlt, by dsimp only; omega, hRi⟩, by dsimp only; omega, rfl, rfl⟩
       · have n1 : ¬ (n : Int) < (most : Int) := by omega
         rw [if_neg hnm] at hRi
         simp only [push_cast, seval, reduceCtorEq, i1, n1]
         rw [hRi]
     · obtain rfl : i = xk.length := by omega
       rw [List.drop_length, List.map_nil, manyIs] at hRi
       simp only [push_cast, seval, reduceCtorEq, Int.lt_irrefl]
       rw [hRi]
end Go.Proofs.YtpcjmmdgopihcaaGreatDoor
namespace Go.Proofs.YtpcjmmdgopihcaaGreatDoor
open Go Go.Ev Go.Proofs
theorem refright_ok (x : Iv) : ∀ (d : Nat) (M0 : Hp), d ≤ 1024 → roM M0 → IvOk M0 x → CallsV Tryz.prog 111 [x.v, .int .i64 (d : Int)] M0 (Ret0 (.bool (okD x.it d))) := by
 induction x using Iv.ind with
 | h x ih =>
   intro d M0 hd hr hx
   have hm := hr.marks
   have e : ∀ D, okD x.it (D + 1) = ((if x.list then x.bytes.isEmpty else (x.kids.map Iv.it).isEmpty) && okDs (x.kids.map Iv.it) D) := fun D => by rw [okD_eq x.it D, Iv.it_list, Iv.it_bytes, Iv.it_kids]
   have e0 : okD x.it 0 = false := by cases x.it; rw [okD]
   have hli := hx.li
   have hkids := hx.kid
   have hlen := hx.len
   obtain ⟨xl, xb, xs, xk⟩ := x
   replace hli : LiR Iv.cells 3 M0 xk xs := hli
   replace hkids : ∀ k ∈ xk, IvOk M0 k := hkids
   replace hlen : xk.length ≤ 1099511627776 := hlen
   replace ih : ∀ k ∈ xk, ∀ (d : Nat) (M0 : Hp), d ≤ 1024 → roM M0 → IvOk M0 k → CallsV Tryz.prog 111 [k.v, .int .i64 (d : Int)] M0 (Ret0 (.bool (okD k.it d))) := ih
   obtain ⟨p, c, rfl, hla⟩ := hli.openC Iv.len (by decide)
   replace e : ∀ D, okD (Iv.mk xl xb (.slice p xk.length c) xk).it (D + 1) = ((if xl then xb.isEmpty else (xk.map Iv.it).isEmpty) && okDs (xk.map Iv.it) D) := e
   obtain ⟨R, hR⟩ : ∃ R, R = okD (Iv.mk xl xb (.slice p xk.length c) xk).it d := ⟨_, rfl⟩
   rw [← hR]
   show CallsV Tryz.prog _ [.agg #[.bool xl, .string (bs xb), .slice p xk.length c], _] M0 _
   refine callsO gO8_ok Tryz.mix Tryz.pl111 Tryz.func111 rfl Tryz.ntmps111 Tryz.results111 rfl (by first | rfl | assumption) (Nat.le_of_ble_eq_true rfl) (by kernel_rfl) ?_
   rcases d with _ | D
   · have hR0 : R = false := hR.trans e0
     have d1 : decide ((0 : Int) < 1) = true := by decide
     have d2 : ((0 : Int) < 1) = True := by decide
     simp only [push_cast, seval, reduceCtorEq, hR0, d1, d2]
   rw [e] at hR
   have d1 : ¬ ((D : Int) + 1) < 1 := by omega
   have hgo : (xl = true ∧ xb = [] ∨ xl = false ∧ xk = []) ∨ R = false ∧ (xl = true ∧ xb ≠ [] ∨ xl = false ∧ 0 < xk.length) := by
    cases xl with
    | true =>
      cases xb with
      | nil => exact .inl (.inl ⟨rfl, rfl⟩)
      | cons y r => exact .inr ⟨by rw [hR]; rfl, .inl ⟨rfl, by simp⟩⟩
    | false =>
      cases xk with
      | nil => exact .inl (.inr ⟨rfl, rfl⟩)
      | cons y r => exact .inr ⟨by rw [hR]; rfl, .inr ⟨rfl, Nat.succ_pos _⟩⟩
   have b0 : (ByteArray.mk #[]).toList = [] := bs_toList []
   have b1 : (([] : List UInt8) == []) = true := rfl
   have hR' : (xl = true ∧ xb = [] ∨ xl = false ∧ xk = []) → R = okDs (xk.map Iv.it) D := by
    rintro (⟨rfl, rfl⟩ | ⟨rfl, rfl⟩)
    · rw [hR]; exact Bool.true_and _
    · rw [hR]; exact Bool.true_and _
   rcases hgo with (⟨rfl, rfl⟩ | ⟨rfl, hxk⟩) | ⟨hR0, ⟨rfl, h⟩ | ⟨rfl, h⟩⟩
   · replace hR' := hR' (.inl ⟨rfl, rfl⟩)
     simp only [push_cast, seval, reduceCtorEq, d1, b0, b1]
     intro b2 hb2
     refine loopO gO8_ok (pl := Tryz.pl111) Tryz.mix (X := Nat)
      (fun i => ([(1, .int .i64 ((D + 1 : Nat) : Int)), (2, .pointer (some ⟨b2, 0, none⟩)), (5, .int .i64 (i : Int))], ⟨b2, 0, .cel 90, [.bool true, .string (bs []), .slice p xk.length c]⟩ :: M0))
      (fun i => i ≤ xk.length ∧ okDs ((xk.map Iv.it).take i) D = true) (fun i => xk.length - i) 0 ?_ ?_ (by kernel_rfl) ?_
     · exact ⟨Nat.zero_le _, by rw [List.take_zero]; simp only [okDs]⟩
     · simp only [push_cast, seval, reduceCtorEq, subH_self]
     · rintro i ⟨hi, hok⟩
       dsimp only at hi hok ⊢
       rcases Nat.lt_or_ge i xk.length with hlt | hge
       · have i1 : (i : Int) < (xk.length : Int) := by omega
         obtain ⟨k, hk⟩ : ∃ k, xk[i]? = some k := ⟨xk[i], List.getElem?_eq_getElem hlt⟩
         have hkm := List.mem_of_getElem? hk
         have hk2 : (xk.map Iv.it)[i]? = some k.it := by rw [List.getElem?_map, hk]; rfl
         have htk := okDs_take (d := D) hk2
         rw [hok, Bool.true_and] at htk
         rcases hla with rfl | ⟨b, f, d, kd, cs, rfl, he, hat⟩
         · simp at hk
         obtain ⟨a1, a2⟩ := hat i k hk
         have nb := (fresh_findS hb2 he).2
         have kc : k.cells.all oneC = true := Iv.all1 (hkids k hkm).one
         have kv : Value.agg k.cells.toArray = k.v := rfl
         have w1 : IntKind.i64.wrap (D : Int) = (D : Int) := IntWalk.i64_in _ (by omega)
         simp only [push_cast, seval, reduceCtorEq, i1, hlt, nb, he, a1, a2, kc, kv, Iv.len, w1]
         refine useP [_] (M := M0) (fun M1 hr1 he1 => ih k hkm D M1 (by omega) hr1 ((hkids k hkm).congr he1.symm)) ⟨hb2, trivial⟩ ?_
         cases hkd : okD k.it D with
         | true =>
           simp only [push_cast, seval, reduceCtorEq, wrap_i64' (show -9223372036854775808 ≤ (i : Int) + 1 ∧ (i : Int) + 1 ≤ 9223372036854775807 by omega)]
           exact ⟨i + 1, ⟨hlt, htk.trans hkd⟩, by omega, rfl⟩
         | false =>
           have hR2 : R = false := hR'.trans (okDs_not hk2 hkd)
           simp only [push_cast, seval, reduceCtorEq, hR2]
       · obtain rfl : i = xk.length := by omega
         rw [show xk.length = (xk.map Iv.it).length from (List.length_map _).symm, List.take_length] at hok
         simp only [push_cast, seval, reduceCtorEq, Int.lt_irrefl]
         rw [hR', hok]
   · replace hR' := hR' (.inr ⟨rfl, hxk⟩)
     have h1 : ¬ (0 : Int) < (xk.length : Int) := by rw [hxk]; decide
     simp only [push_cast, seval, reduceCtorEq, d1, h1]
     intro b2 hb2
     refine loopO gO8_ok (pl := Tryz.pl111) Tryz.mix (X := Nat)
      (fun i => ([(1, .int .i64 ((D + 1 : Nat) : Int)), (2, .pointer (some ⟨b2, 0, none⟩)), (5, .int .i64 (i : Int))], ⟨b2, 0, .cel 90, [.bool false, .string (bs xb), .slice p xk.length c]⟩ :: M0))
      (fun i => i ≤ xk.length ∧ okDs ((xk.map Iv.it).take i) D = true) (fun i => xk.length - i) 0 ?_ ?_ (by kernel_rfl) ?_
     · exact ⟨Nat.zero_le _, by rw [List.take_zero]; simp only [okDs]⟩
     · simp only [push_cast, seval, reduceCtorEq, subH_self]
     · rintro i ⟨hi, hok⟩
       dsimp only at hi hok ⊢
       rcases Nat.lt_or_ge i xk.length with hlt | hge
       · have i1 : (i : Int) < (xk.length : Int) := by omega
         obtain ⟨k, hk⟩ : ∃ k, xk[i]? = some k := ⟨xk[i], List.getElem?_eq_getElem hlt⟩
         have hkm := List.mem_of_getElem? hk
         have hk2 : (xk.map Iv.it)[i]? = some k.it := by rw [List.getElem?_map, hk]; rfl
         have htk := okDs_take (d := D) hk2
         rw [hok, Bool.true_and] at htk
         rcases hla with rfl | ⟨b, f, d, kd, cs, rfl, he, hat⟩
         · simp at hk
         obtain ⟨a1, a2⟩ := hat i k hk
         have nb := (fresh_findS hb2 he).2
         have kc : k.cells.all oneC = true := Iv.all1 (hkids k hkm).one
         have kv : Value.agg k.cells.toArray = k.v := rfl
         have w1 : IntKind.i64.wrap (D : Int) = (D : Int) := IntWalk.i64_in _ (by omega)
         simp only [push_cast, seval, reduceCtorEq, i1, hlt, nb, he, a1, a2, kc, kv, Iv.len, w1]
         refine useP [_] (M := M0) (fun M1 hr1 he1 => ih k hkm D M1 (by omega) hr1 ((hkids k hkm).congr he1.symm)) ⟨hb2, trivial⟩ ?_
         cases hkd : okD k.it D with
         | true =>
           simp only [push_cast, seval, reduceCtorEq, wrap_i64' (show -9223372036854775808 ≤ (i : Int) + 1 ∧ (i : Int) + 1 ≤ 9223372036854775807 by omega)]
           exact ⟨i + 1, ⟨hlt, htk.trans hkd⟩, by omega, rfl⟩
         | false =>
           have hR2 : R = false := hR'.trans (okDs_not hk2 hkd)
           simp only [push_cast, seval, reduceCtorEq, hR2]
       · obtain rfl : i = xk.length := by omega
         rw [show xk.length = (xk.map Iv.it).length from (List.length_map _).symm, List.take_length] at hok
         simp only [push_cast, seval, reduceCtorEq, Int.lt_irrefl]
         rw [hR', hok]
   · have h1 : (xb == []) = false := beq_eq_false_iff_ne.2 h
     simp only [push_cast, seval, reduceCtorEq, d1, b0, h1, hR0]
   · have h1 : (0 : Int) < (xk.length : Int) := by omega
     simp only [push_cast, seval, reduceCtorEq, d1, h1, hR0]
theorem refbytes_ok (x : Iv) : ∀ M0, roM M0 → IvOk M0 x → (encL x.it).length ≤ 1099511627776 → CallsV Tryz.prog 85 [x.v] M0 (Ret0 (.string (bs (encL x.it)))) := by
 induction x using Iv.ind with
 | h x ih =>
   intro M0 hr hx hlen
   have hm := hr.marks
   have e1 : x.list = true → encL x.it = headL 192 (encLs (x.kids.map Iv.it)).length ++ encLs (x.kids.map Iv.it) := fun h => by rw [encL_kids _ (by rw [Iv.it_list]; exact h), Iv.it_kids]
   have e2 : x.list = false → encL x.it = textL x.bytes := fun h => by rw [encL_text _ (by rw [Iv.it_list]; exact h), Iv.it_bytes]
   have hli := hx.li
   have hkids := hx.kid
   have hxl := hx.len
   obtain ⟨xl, xb, xs, xk⟩ := x
   replace hli : LiR Iv.cells 3 M0 xk xs := hli
   replace hkids : ∀ k ∈ xk, IvOk M0 k := hkids
   replace hxl : xk.length ≤ 1099511627776 := hxl
   replace ih : ∀ k ∈ xk, ∀ (M0 : Hp), roM M0 → IvOk M0 k → (encL k.it).length ≤ 1099511627776 → CallsV Tryz.prog 85 [k.v] M0 (Ret0 (.string (bs (encL k.it)))) := ih
   obtain ⟨p, c, rfl, hla⟩ := hli.openC Iv.len (by decide)
   obtain ⟨W, hW⟩ : ∃ W, W = encL (Iv.mk xl xb (.slice p xk.length c) xk).it := ⟨_, rfl⟩
   replace e1 : xl = true → W = headL 192 (encLs (xk.map Iv.it)).length ++ encLs (xk.map Iv.it) := fun h => hW.trans (e1 h)
   replace e2 : xl = false → W = textL xb := fun h => hW.trans (e2 h)
   rw [← hW] at hlen
   obtain ⟨R, hR⟩ : ∃ R, R = bs W := ⟨_, rfl⟩
   rw [← hW, ← hR]
   show CallsV Tryz.prog _ [.agg #[.bool xl, .string (bs xb), .slice p xk.length c]] M0 _
   refine callsO gO8_ok Tryz.mix Tryz.pl85 Tryz.func85 rfl Tryz.ntmps85 Tryz.results85 rfl (by first | rfl | assumption) (Nat.le_of_ble_eq_true rfl) (by kernel_rfl) ?_
   cases xl with
   | true =>
     have eW := e1 rfl
     obtain ⟨S, hS⟩ : ∃ S, S = encLs (xk.map Iv.it) := ⟨_, rfl⟩
     rw [← hS] at eW
     have hl2 := congrArg List.length eW
     rw [List.length_append] at hl2
     have ce : (encLs ((xk.map Iv.it).take 0)) = [] := by rw [List.take_zero]; simp only [encLs]
     simp only [push_cast, seval, reduceCtorEq]
     intro b2 hb2
     refine loopO gO8_ok (pl := Tryz.pl85) Tryz.mix (X := Nat)
      (fun i => ([(1, .pointer (some ⟨b2, 0, none⟩)), (3, .string (bs (encLs ((xk.map Iv.it).take i)))), (4, .int .i64 (i : Int))], ⟨b2, 0, .cel 90, [.bool true, .string (bs xb), .slice p xk.length c]⟩ :: M0))
      (fun i => i ≤ xk.length) (fun i => xk.length - i) 0 ?_ ?_ (by kernel_rfl) ?_
     · exact Nat.zero_le _
     · rw [ce]
       simp only [push_cast, seval, reduceCtorEq, subH_self]
       rfl
     · intro i hi
       dsimp only at hi ⊢
       rcases Nat.lt_or_ge i xk.length with hlt | hge
       · have i1 : (i : Int) < (xk.length : Int) := by omega
         obtain ⟨k, hk⟩ : ∃ k, xk[i]? = some k := ⟨xk[i], List.getElem?_eq_getElem hlt⟩
         have hkm := List.mem_of_getElem? hk
         have hk2 : (xk.map Iv.it)[i]? = some k.it := by rw [List.getElem?_map, hk]; rfl
         have htk := encLs_take (xk.map Iv.it) hk2
         have hle := encLs_le (xk.map Iv.it) (i + 1)
         have hme := encLs_mem (List.mem_map_of_mem (f := Iv.it) hkm)
         rw [← hS] at hle hme
         rw [htk, List.length_append] at hle
         obtain ⟨P, hP⟩ : ∃ P, P = encLs ((xk.map Iv.it).take i) := ⟨_, rfl⟩
         rw [← hP] at htk hle ⊢
         rcases hla with rfl | ⟨b, f, d, kd, cs, rfl, he, hat⟩
         · simp at hk
         obtain ⟨a1, a2⟩ := hat i k hk
         have nb := (fresh_findS hb2 he).2
         have kc : k.cells.all oneC = true := Iv.all1 (hkids k hkm).one
         have kv : Value.agg k.cells.toArray = k.v := rfl
         have hcat : catB (bs P) (bs (encL k.it)) = some (.string (bs (P ++ encL k.it))) := ncatB _ _ (by omega)
         simp only [push_cast, seval, reduceCtorEq, i1, hlt, nb, he, a1, a2, kc, kv, Iv.len]
         refine useP [_] (M := M0) (fun M1 hr1 he1 => ih k hkm M1 hr1 ((hkids k hkm).congr he1.symm) (by omega)) ⟨hb2, trivial⟩ ?_
         simp only [push_cast, seval, reduceCtorEq, hcat, wrap_i64' (show -9223372036854775808 ≤ (i : Int) + 1 ∧ (i : Int) + 1 ≤ 9223372036854775807 by omega)]
         exact ⟨i + 1, hlt, by omega, by rw [htk], rfl⟩
       · obtain rfl : i = xk.length := by omega
         have ht : (encLs ((xk.map Iv.it).take xk.length)) = S := by rw [hS, show xk.length = (xk.map Iv.it).length from (List.length_map _).symm, List.take_length]
         rw [ht]
         have c1 : ((0 : Int) ≤ (S.length : Int)) := by omega
         have c2 : (S.length : Int) ≤ 1099511627776 := by omega
         have hcat : catB (headK 192 (S.length : Int)) (bs S) = some (.string R) := by
          rw [show headK 192 (S.length : Int) = bs (headL 192 S.length) from headK_eq 192 S.length, ncatB _ _ (by omega), hR, eW]
         simp only [push_cast, seval, reduceCtorEq, Int.lt_irrefl, c1, c2, hcat]
   | false =>
     have eW := e2 rfl
     rw [eW] at hR hlen
     simp only [push_cast, seval, reduceCtorEq]
     intro b2 hb2
     have long : (∀ c, xb = [c] → ¬ c.toNat < 128) → xb.length ≤ 1099511627776 ∧ catB (headK 128 (xb.length : Int)) (bs xb) = some (.string R) := fun h => by
      rw [textL_long h] at hR hlen
      rw [List.length_append] at hlen
      refine ⟨by omega, ?_⟩
      rw [show headK 128 (xb.length : Int) = bs (headL 128 xb.length) from headK_eq 128 xb.length, ncatB _ _ (by omega), hR]
     by_cases h1 : xb.length = 1
     · obtain ⟨c, rfl⟩ := List.length_eq_one_iff.1 h1
       have b0 : (bs [c]).data[0]? = some c := rfl
       have e2 : ([c] : List UInt8).length = 1 := rfl
       by_cases hc : c.toNat < 128
       · rw [textL_one hc] at hR
         have c1 : (c.toNat : Int) < 128 := by omega
         simp only [push_cast, seval, reduceCtorEq, hb2, b0, e2, c1, hc]
         rw [hR]
       · have c1 : ¬ (c.toNat : Int) < 128 := by omega
         obtain ⟨l1, l2⟩ := long (fun d hd => by injection hd with hd; subst hd; exact hc)
         have l3 : catB (headK 128 1) (bs [c]) = some (.string R) := l2
         simp only [push_cast, seval, reduceCtorEq, hb2, b0, e2, c1, hc, l3]
     · have c1 : ((xb.length : Int) == 1) = false := by rw [beq_eq_false_iff_ne]; omega
       obtain ⟨l1, l2⟩ := long (fun d hd => by rw [hd] at h1; exact absurd rfl h1)
       have c2 : (0 : Int) ≤ (xb.length : Int) := by omega
       have c3 : (xb.length : Int) ≤ 1099511627776 := by omega
       simp only [push_cast, seval, reduceCtorEq, hb2, c1, c2, c3, l2]
theorem refRight6_R {M : Hp} {x : Iv} (hx : IvOk M x) : ∀ M0, roM M0 → cellsAt M0 = cellsAt M → CallsV Tryz.prog 84 [x.v] M0 (Ret0 (.bool (rightI x.it))) := by
 intro M0 hr he
 have hx0 := hx.congr he.symm
 have hm := hr.marks
 have il : x.cells.length = 3 := rfl
 have xv : x.v.cells.toList = x.cells := rfl
 have xall : x.cells.all oneC = true := Iv.all1 hx0.one
 have rd := rightI_doc x.it
 obtain ⟨R, hR⟩ : ∃ R, R = rightI x.it := ⟨_, rfl⟩
 rw [← hR] at rd ⊢
 refine callsO gO8_ok Tryz.mix Tryz.pl84 Tryz.func84 rfl Tryz.ntmps84 Tryz.results84 rfl (by first | rfl | assumption) (Nat.le_of_ble_eq_true rfl) (by kernel_rfl) ?_
 simp only [push_cast, seval, reduceCtorEq, xv, xall, il]
 intro b1 hb1
 try simp only [push_cast, seval, reduceCtorEq, il]
 refine useP [_] (fun M1 hr1 he1 => refmany_ok x 5001 M1 (by decide) (by decide) hr1 (hx0.congr he1.symm)) ⟨hb1, trivial⟩ ?_
 obtain ⟨n, hn⟩ : ∃ n, n = manyI x.it 5001 := ⟨_, rfl⟩
 rw [← hn] at rd ⊢
 rcases Nat.lt_or_ge 5000 n with h | h
 · have h' : ¬ (n : Int) ≤ 5000 := by omega
   rw [decide_eq_false (by omega), Bool.false_and] at rd
   simp only [push_cast, seval, reduceCtorEq, il, h', rd]
 · have h' : (n : Int) ≤ 5000 := by omega
   rw [decide_eq_true h, Bool.true_and] at rd
   simp only [push_cast, seval, reduceCtorEq, il, h']
   refine useP [_] (fun M1 hr1 he1 => refright_ok x 16 M1 (by decide) hr1 (hx0.congr he1.symm)) ⟨hb1, trivial⟩ ?_
   simp only [push_cast, seval, reduceCtorEq, il, rd]
theorem refenc_R {M : Hp} {x : Iv} (hx : IvOk M x) (hl : (encL x.it).length ≤ 1099511627776) : ∀ M0, roM M0 → cellsAt M0 = cellsAt M → CallsV Tryz.prog 57 [x.v] M0 (Ret0 (.tuple #[.string (bs (encD x.it).1), .int .i64 (encD x.it).2])) := by
 intro M0 hr he
 have hx0 := hx.congr he.symm
 have hm := hr.marks
 have il : x.cells.length = 3 := rfl
 have it3 : List.take 3 x.cells = x.cells := List.take_of_length_le (Nat.le_of_eq rfl)
 have xv : x.v.cells.toList = x.cells := rfl
 have xall : x.cells.all oneC = true := Iv.all1 hx0.one
 refine callsO gO8_ok Tryz.mix Tryz.pl57 Tryz.func57 rfl Tryz.ntmps57 Tryz.results57 rfl (by first | rfl | assumption) (Nat.le_of_ble_eq_true rfl) (by kernel_rfl) ?_
 simp only [push_cast, seval, reduceCtorEq, xv, xall, il]
 intro b1 hb1
 try simp only [push_cast, seval, reduceCtorEq, il, it3]
 refine useP [_] (v := .bool (rightI x.it)) (fun M1 hr1 he1 => refRight6_R hx0 M1 hr1 he1) ⟨hb1, trivial⟩ ?_
 cases hri : rightI x.it with
 | false =>
   simp only [push_cast, seval, reduceCtorEq, il, it3]
   unfold encD
   rw [hri]
   rfl
 | true =>
   simp only [push_cast, seval, reduceCtorEq, il, it3]
   refine useP [_] (fun M1 hr1 he1 => refbytes_ok x M1 hr1 (hx0.congr he1.symm) hl) ⟨hb1, trivial⟩ ?_
   have hz : (bs (encL x.it)).size = (encL x.it).length := rfl
   rcases Nat.lt_or_ge 1048576 (encL x.it).length with h | h
   · have h' : (1048576 : Int) < ((encL x.it).length : Int) := by omega
     simp only [push_cast, seval, reduceCtorEq, hz, h']
     unfold encD
     rw [hri, if_pos rfl, if_neg (by omega)]
     rfl
   · have h' : ¬ (1048576 : Int) < ((encL x.it).length : Int) := by omega
     simp only [push_cast, seval, reduceCtorEq, hz, h']
     unfold encD
     rw [hri, if_pos rfl, if_pos h]
end Go.Proofs.YtpcjmmdgopihcaaGreatDoor
