/- Sa: strings.Builder: copyCheck, WriteString, String. -/
import Derived.Test.YtfioapldbajpmaaDoorFacts
import Derived.Test.YtfioapldbajpmaaDoorE3
set_option linter.unusedSimpArgs false
set_option linter.unusedVariables false
namespace Go.Ev
theorem remE_freshN {N : Hp} {e : Ent} (h : freshN N [e]) : remE (N ++ [e]) e.blk = N := by
  induction N with
  | nil => simp [remE]
  | cons x r ih =>
    have : ¬ e.blk = x.blk := h.1.2.1
    simp only [List.cons_append, remE, if_neg this]
    rw [ih h.2]
theorem updE_freshN {N : Hp} {e : Ent} (h : freshN N [e]) (cs : List Value) : updE (N ++ [e]) e.blk cs = N ++ [{ e with cells := cs }] := by
  induction N with
  | nil => simp [updE]
  | cons x r ih =>
    have : ¬ e.blk = x.blk := h.1.2.1
    simp only [List.cons_append, updE, if_neg this]
    rw [ih h.2]
theorem freshN_blk {N : Hp} {e e' : Ent} (hb : e.blk = e'.blk) (h : freshN N [e]) : freshN N [e'] := by
  induction N with
  | nil => trivial
  | cons x r ih =>
    obtain ⟨⟨h1, h2, _⟩, h3⟩ := h
    exact ⟨⟨hb ▸ h1, hb ▸ h2, trivial⟩, ih h3⟩
def idG : List Value → Option Value
  | [x] => some x
  | _ => none
attribute [push_cast] idG
theorem byteV_len (l : List UInt8) : (byteV l).length = l.length := by simp [byteV]
theorem byteV_one (l : List UInt8) : (byteV l).all oneC = true := by simp [byteV, oneC]
theorem byteV_app (l m : List UInt8) : byteV (l ++ m) = byteV l ++ byteV m := by simp [byteV]
end Go.Ev
namespace Go.Proofs.YtfioapldbajpmaaDoor
open Go Go.Ev Go.Proofs
set_option maxRecDepth 100000
set_option maxHeartbeats 4000000
noncomputable def gS : Gam := noG
attribute [push_cast] gS
theorem gS_ok : GamOk Tryd.prog gS := (noG_ok _)
theorem pk4 : usOk Tryd.prog 129 5 = true := by kernel_rfl
attribute [push_cast] pk4
def plStr : Plans := fun i => if i = 1 then [(0, 0), (1, 0), (2, 0), (3, 0), (5, 0), (6, 0), (7, 0), (8, 0), (9, 0), (4, 2), (10, 1), (11, 0)] else []
attribute [push_cast] plStr
end Go.Proofs.YtfioapldbajpmaaDoor
