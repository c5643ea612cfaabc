/- Dk: what the document's sums and products are; words as numbers that go round. -/
import Derived.Test.YtbpnjkedflkabaaDi
import Derived.Test.YtbpnjkedflkabaaWj
set_option linter.unusedSimpArgs false
set_option linter.unusedVariables false
namespace Go.Ev
theorem CallsV.onto {P : Program} {g : FuncId} {args : List Value} {v : Value} {H : Hp} (hc : CallsV P g args [] (Ret0 v)) (hm : marksOf H = []) : CallsV P g args H (Ret0 v) := by
  refine ⟨hc.1, fun w0 mu w hs => ?_⟩
  rw [hm]
  exact hc.2 w0 mu w (hs.weak (List.nil_sublist H))
noncomputable def addW (x y : W) : W := W.of (x.num + y.num)
noncomputable def mulW (x y : W) : W := W.of (x.num * y.num)
noncomputable def addWG : List Value → Option Value
  | [x, y] => (wOf x).bind fun a => (wOf y).bind fun b => some (addW a b).v
  | _ => none
noncomputable def mulWG : List Value → Option Value
  | [x, y] => (wOf x).bind fun a => (wOf y).bind fun b => some (mulW a b).v
  | _ => none
def awakeG : List Value → Option Value
  | [] => some (.bool true)
  | _ => none
theorem l_append2 {α : Type} (a b : List α) : List.append a b = a ++ b := rfl
attribute [push_cast] addWG mulWG awakeG l_append2
/-- numbers that are the same but for what goes round -/
noncomputable def modM : Int := hid 115792089237316195423570985008687907853269984665640564039457584007913129639936
theorem modM_eq : modM = 115792089237316195423570985008687907853269984665640564039457584007913129639936 := by unfold modM; rw [hid_eq]
def cM (x y : Int) : Prop := ∃ t, x = y + modM * t
theorem cM.rfl (x : Int) : cM x x := ⟨0, by rw [Int.mul_zero, Int.add_zero]⟩
theorem cM.trans {x y z : Int} (h : cM x y) (g : cM y z) : cM x z := by
  obtain ⟨t, rfl⟩ := h
  obtain ⟨s, rfl⟩ := g
  exact ⟨t + s, by rw [Int.mul_add]; omega⟩
theorem cM.symm {x y : Int} (h : cM x y) : cM y x := by
  obtain ⟨t, rfl⟩ := h
  exact ⟨-t, by rw [Int.mul_neg]; omega⟩
theorem cM.add {x y u v : Int} (h : cM x y) (g : cM u v) : cM (x + u) (y + v) := by
  obtain ⟨t, rfl⟩ := h
  obtain ⟨s, rfl⟩ := g
  exact ⟨t + s, by rw [Int.mul_add]; omega⟩
theorem cM.neg {x y : Int} (h : cM x y) : cM (-x) (-y) := by
  obtain ⟨t, rfl⟩ := h
  exact ⟨-t, by rw [Int.mul_neg]; omega⟩
theorem cM.mul {x y u v : Int} (h : cM x y) (g : cM u v) : cM (x * u) (y * v) := by
  obtain ⟨t, rfl⟩ := h
  obtain ⟨s, rfl⟩ := g
  refine ⟨t * v + y * s + modM * t * s, ?_⟩
  simp only [Int.mul_add, Int.add_mul, Int.mul_assoc, Int.mul_comm, Int.mul_left_comm]
  omega
theorem cM.of (n : Nat) : cM ((W.of n).num : Int) (n : Int) := by
  refine ⟨-(n / 115792089237316195423570985008687907853269984665640564039457584007913129639936 : Nat), ?_⟩
  rw [W.num_of, modM_eq]
  omega
theorem cM.eq {x y : W} (h : cM (x.num : Int) (y.num : Int)) : x = y := by
  obtain ⟨t, ht⟩ := h
  have := x.num_lt; have := y.num_lt
  rw [modM_eq] at ht
  refine W.num_inj ?_
  omega
theorem cM.addW (x y : W) : cM ((Ev.addW x y).num : Int) ((x.num : Int) + (y.num : Int)) := by
  unfold Ev.addW; rw [← Int.natCast_add]; exact cM.of _
theorem cM.mulW (x y : W) : cM ((Ev.mulW x y).num : Int) ((x.num : Int) * (y.num : Int)) := by
  unfold Ev.mulW; rw [← Int.natCast_mul]; exact cM.of _
theorem cM.negW (x : W) : cM ((Ev.negW x).num : Int) (-(x.num : Int)) := by
  unfold Ev.negW
  rw [subW_eq]
  refine (cM.of _).trans ⟨1, ?_⟩
  have := x.num_lt
  rw [modM_eq, show W.zero.num = 0 from Eq.refl 0]
  omega
def sgn (b : Bool) (x : Int) : Int := if b then -x else x
theorem cM.withW (x : W) (b : Bool) : cM ((Ev.withW x b).num : Int) (sgn b x.num) := by
  cases b
  · exact cM.rfl _
  · exact cM.negW x
theorem neg_neg (x : W) : negW (negW x) = x := (((cM.negW _).trans (cM.negW x).neg).trans (by rw [Int.neg_neg]; exact cM.rfl _)).eq
theorem signed_with (a : W) : withW (signedW a).1 (signedW a).2 = a := by
  unfold signedW withW
  split
  · exact neg_neg a
  · rfl
theorem cM.signed (a : W) : cM (a.num : Int) (sgn (signedW a).2 (signedW a).1.num) := by
  have := cM.withW (signedW a).1 (signedW a).2
  rw [signed_with] at this
  exact this
theorem div_num (a b : W) : (divW a b).num = a.num / b.num := by
  unfold divW
  exact W.num_small (Nat.lt_of_le_of_lt (Nat.div_le_self _ _) a.num_lt)
theorem mod_num {a b : W} (h : ¬ b = W.zero) : (modW a b).num = a.num % b.num := by
  unfold modW
  rw [if_neg h]
  exact W.num_small (Nat.lt_of_le_of_lt (Nat.mod_le _ _) a.num_lt)
theorem top_num (w : W) : topB w.d = decide (57896044618658097711785492504343953926634992332820282019728792003956564819968 ≤ w.num) := by
  have := w.ha; have := w.hb; have := w.hc; have := w.hd
  rw [topB_eq]
  congr 1
  unfold W.num
  exact propext ⟨fun h => by omega, fun h => by omega⟩
end Go.Ev
namespace Go.Proofs.Ytbpnjkedflkabaa
open Go Go.Ev Go.Proofs
set_option maxRecDepth 100000
set_option maxHeartbeats 4000000
noncomputable def gQ : Gam := addG 24 addWG (addG 25 mulWG (addG 9 awakeG gZ))
attribute [push_cast] gQ
theorem gQ_ok : GamOk Try.prog gQ := by
  refine addG_ok (fun args v h => ?_) (addG_ok (fun args v h => ?_) (addG_ok (fun args v h => ?_) gZ_ok))
  · obtain ⟨x, y, rfl, rfl⟩ := two_some (g := fun a b => (addW a b).v) (by funext l; rfl) h
    exact refAdd x y
  · obtain ⟨x, y, rfl, rfl⟩ := two_some (g := fun a b => (mulW a b).v) (by funext l; rfl) h
    exact refMul x y
  · unfold awakeG at h
    split at h
    · cases h; exact awake_ok
    · cases h
end Go.Proofs.Ytbpnjkedflkabaa
