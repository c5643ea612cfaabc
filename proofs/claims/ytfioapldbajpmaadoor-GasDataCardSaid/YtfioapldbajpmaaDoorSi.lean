/- Si: the document's FromBytes. -/
import Derived.Test.YtfioapldbajpmaaDoorSc
import Derived.Test.YtfioapldbajpmaaDoorWh
set_option linter.unusedSimpArgs false
set_option linter.unusedVariables false
namespace Go.Ev
/-- the number of bytes, the lowest one first -/
def beN : List UInt8 → Nat
  | [] => 0
  | x :: r => x.toNat + 256 * beN r
theorem beN_lt : ∀ (r : List UInt8), beN r < 256 ^ r.length
  | [] => by simp [beN]
  | x :: r => by
    have := beN_lt r
    have hx := x.toNat_lt
    simp only [beN, List.length_cons, Nat.pow_succ]
    omega
theorem digN_beN : ∀ (r : List UInt8) (i : Nat) (h : i < r.length), digN (beN r) i = (r[i]).toNat
  | [], i, h => absurd h (Nat.not_lt_zero _)
  | x :: r, 0, _ => by
    have hx := x.toNat_lt
    rw [digN_eq]
    simp only [beN, Nat.pow_zero, Nat.div_one, List.getElem_cons_zero]
    omega
  | x :: r, i + 1, h => by
    have hx := x.toNat_lt
    have := digN_beN r i (by simpa using h)
    rw [digN_eq] at this ⊢
    rw [Nat.pow_succ, Nat.mul_comm, ← Nat.div_div_eq_div_mul, List.getElem_cons_succ, ← this]
    congr 2
    simp only [beN]
    omega
/-- the word of bytes -/
noncomputable def frombW : List UInt8 → W := hid fun l => W.of (beN (l.reverse.take 32))
theorem frombW_eq (l : List UInt8) : frombW l = W.of (beN (l.reverse.take 32)) := by unfold frombW; rw [hid_eq]
noncomputable def frombG : List Value → Option Value
  | [.string b] => some (frombW b.data.toList).v
  | _ => none
attribute [push_cast] frombG
end Go.Ev
namespace Go.Proofs.YtfioapldbajpmaaDoor
open Go Go.Ev Go.Proofs
set_option maxRecDepth 100000
set_option maxHeartbeats 4000000
end Go.Proofs.YtfioapldbajpmaaDoor
