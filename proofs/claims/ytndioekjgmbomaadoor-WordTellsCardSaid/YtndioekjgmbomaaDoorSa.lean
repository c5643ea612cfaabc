/- Sa: strings.Builder: copyCheck, WriteString, String. -/
import Derived.Test.YtndioekjgmbomaaDoorFacts
import Derived.Test.YtndioekjgmbomaaDoorEvP
set_option linter.unusedSimpArgs false
set_option linter.unusedVariables false
namespace Go.Ev
theorem remE_freshN {N : Hp} {e : Ent} (h : freshN N [e]) : remE (N ++ [e]) e.blk = N := by
  induction N with
  | nil => simp [remE]
  | cons x r ih =>
    have : ¬ e.blk = x.blk := h.1.2.1
    simp only [List.cons_append, remE, if_neg this]
    rw [ih h.2]
theorem updE_freshN {N : Hp} {e : Ent} (h : freshN N [e]) (cs : List Value) : updE (N ++ [e]) e.blk cs = N ++ [{ e with cells := cs }] := by
  induction N with
  | nil => simp [updE]
  | cons x r ih =>
    have : ¬ e.blk = x.blk := h.1.2.1
    simp only [List.cons_append, updE, if_neg this]
    rw [ih h.2]
theorem freshN_blk {N : Hp} {e e' : Ent} (hb : e.blk = e'.blk) (h : freshN N [e]) : freshN N [e'] := by
  induction N with
  | nil => trivial
  | cons x r ih =>
    obtain ⟨⟨h1, h2, _⟩, h3⟩ := h
    exact ⟨⟨hb ▸ h1, hb ▸ h2, trivial⟩, ih h3⟩
def idG : List Value → Option Value
  | [x] => some x
  | _ => none
attribute [push_cast] idG
theorem byteV_len (l : List UInt8) : (byteV l).length = l.length := by simp [byteV]
theorem byteV_one (l : List UInt8) : (byteV l).all oneC = true := by simp [byteV, oneC]
theorem byteV_app (l m : List UInt8) : byteV (l ++ m) = byteV l ++ byteV m := by simp [byteV]
end Go.Ev
namespace Go.Proofs.YtndioekjgmbomaaDoor
open Go Go.Ev Go.Proofs
set_option maxRecDepth 100000
set_option maxHeartbeats 4000000
theorem noEscape (args : List Value) (v : Value) (h : idG args = some v) : ExtV Tryd.prog 67 args v := by
  unfold idG at h
  split at h
  case h_2 => cases h
  cases h
  intro w
  rw [run_callFunc_extern Tryd.func67 (by kernel_rfl) (by kernel_rfl) (by kernel_rfl) (e := Extern.AbiNoEscape.same) (by kernel_rfl)]
  rw [Lib.run_noEscape]
  rfl
noncomputable def gS : Gam := (addG 67 idG noG)
attribute [push_cast] gS
theorem gS_ok : GamOk Tryd.prog gS := (addX_ok noEscape (noG_ok _))
theorem pk1 : ptrOk Tryd.prog 59 92 61 2 = true := by kernel_rfl
theorem pk2 : ptrOk Tryd.prog 92 59 61 2 = true := by kernel_rfl
theorem pk3 : (Tryd.prog.info? 61).isSome = true := by kernel_rfl
theorem pk4 : usOk Tryd.prog 88 5 = true := by kernel_rfl
attribute [push_cast] pk1 pk2 pk3 pk4
theorem copyCheck_ok (b : Nat) (p v : Value) (hp : p = .pointer none ∨ p = .pointer (some ⟨b, 0, none⟩)) : CallsV Tryd.prog 55 [.pointer (some ⟨b, 0, none⟩)] [⟨b, 0, .cel 61, [p, v]⟩]
    (fun r N => r = .tuple #[] ∧ N = [⟨b, 0, .cel 61, [.pointer (some ⟨b, 0, none⟩), v]⟩]) := by
  rcases hp with rfl | rfl
  · refine callsO gS_ok Tryd.mix Tryd.pl55 Tryd.func55 rfl Tryd.ntmps55 Tryd.results55 rfl (by first | rfl | assumption) (Nat.le_of_ble_eq_true rfl) (by kernel_rfl) ?_
    simp only [push_cast, Nat.reduceAdd, Nat.reduceSub, Nat.reduceMul, Nat.reduceLT, Nat.reduceLeDiff, Nat.reduceEqDiff, Nat.reduceMod, Nat.reduceDiv, Int.reduceAdd, Int.reduceSub, Int.reduceMul, Int.reduceLT, Int.reduceLE, Int.reduceEq, Int.reduceNeg, Int.reduceToNat, reduceIte, reduceCtorEq]
    exact ⟨_, List.Sublist.refl _, rfl⟩
  · refine callsO gS_ok Tryd.mix Tryd.pl55 Tryd.func55 rfl Tryd.ntmps55 Tryd.results55 rfl (by first | rfl | assumption) (Nat.le_of_ble_eq_true rfl) (by kernel_rfl) ?_
    simp only [push_cast, Nat.reduceAdd, Nat.reduceSub, Nat.reduceMul, Nat.reduceLT, Nat.reduceLeDiff, Nat.reduceEqDiff, Nat.reduceMod, Nat.reduceDiv, Int.reduceAdd, Int.reduceSub, Int.reduceMul, Int.reduceLT, Int.reduceLE, Int.reduceEq, Int.reduceNeg, Int.reduceToNat, reduceIte, reduceCtorEq]
    exact ⟨_, List.Sublist.refl _, rfl⟩
def plStr : Plans := fun i => if i = 1 then [(0, 0), (1, 0), (2, 0), (3, 0), (5, 0), (6, 0), (7, 0), (8, 0), (9, 0), (4, 2), (10, 1), (11, 0)] else []
attribute [push_cast] plStr
theorem string_ok (b : Nat) (p v : Value) (l : List UInt8) (hl : l.length < 9223372036854775807) (Nv : Hp) (ho : OutC 5 1 (byteV l) l.length v Nv) (hf : freshN Nv [⟨b, 0, .cel 61, [p, v]⟩]) :
    CallsV Tryd.prog 43 [.pointer (some ⟨b, 0, none⟩)] (Nv ++ [⟨b, 0, .cel 61, [p, v]⟩]) (fun r N => r = .string ⟨l.toArray⟩ ∧ N = []) := by
  rcases ho with ⟨h0, h1, rfl, rfl⟩ | ⟨g, c, h0, rfl, hc, hcl, rfl⟩
  · obtain rfl : l = [] := List.eq_nil_of_length_eq_zero h0
    refine callsO gS_ok Tryd.mix plStr Tryd.func43 rfl Tryd.ntmps43 Tryd.results43 rfl (by first | rfl | assumption) (Nat.le_of_ble_eq_true rfl) (by kernel_rfl) ?_
    simp only [push_cast, Nat.reduceAdd, Nat.reduceSub, Nat.reduceMul, Nat.reduceLT, Nat.reduceLeDiff, Nat.reduceEqDiff, Nat.reduceMod, Nat.reduceDiv, Int.reduceAdd, Int.reduceSub, Int.reduceMul, Int.reduceLT, Int.reduceLE, Int.reduceEq, Int.reduceNeg, Int.reduceToNat, reduceIte, reduceCtorEq]
    exact ⟨[], List.nil_sublist _, rfl, rfl⟩
  · simp only [push_cast, Nat.reduceAdd, Nat.reduceSub, Nat.reduceMul, Nat.reduceLT, Nat.reduceLeDiff, Nat.reduceEqDiff, Nat.reduceMod, Nat.reduceDiv, Int.reduceAdd, Int.reduceSub, Int.reduceMul, Int.reduceLT, Int.reduceLE, Int.reduceEq, Int.reduceNeg, Int.reduceToNat, reduceIte, reduceCtorEq] at hf
    have c0 : ¬ c = 0 := by omega
    have n0 : ¬ (l.length : Int) = 0 := by omega
    have n1 : (0 : Int) < (l.length : Int) := by omega
    have n2 : (l.length : Int) ≤ 9223372036854775807 := by omega
    have tk : List.take l.length (byteV l) = byteV l := List.take_of_length_le (by rw [byteV_len]; exact Nat.le_refl _)
    refine callsO gS_ok Tryd.mix plStr Tryd.func43 rfl Tryd.ntmps43 Tryd.results43 rfl (by first | rfl | assumption) (Nat.le_of_ble_eq_true rfl) (by kernel_rfl) ?_
    simp only [push_cast, Nat.reduceAdd, Nat.reduceSub, Nat.reduceMul, Nat.reduceLT, Nat.reduceLeDiff, Nat.reduceEqDiff, Nat.reduceMod, Nat.reduceDiv, Int.reduceAdd, Int.reduceSub, Int.reduceMul, Int.reduceLT, Int.reduceLE, Int.reduceEq, Int.reduceNeg, Int.reduceToNat, reduceIte, reduceCtorEq, hf, c0, n0, n1, n2, byteV_len, tk]
    exact ⟨[], List.nil_sublist _, rfl⟩
end Go.Proofs.YtndioekjgmbomaaDoor
