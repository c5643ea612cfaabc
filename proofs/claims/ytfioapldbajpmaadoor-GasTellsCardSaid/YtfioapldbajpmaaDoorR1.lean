/- R1: flags, as a row hands them. -/
import Derived.Test.YtfioapldbajpmaaDoorR0
set_option linter.unusedSimpArgs false
set_option linter.unusedVariables false
namespace Go.Proofs.YtfioapldbajpmaaDoor
open Go Go.Ev Go.Proofs Go.ChangeShapes Go.WideShapes Go.ChangeAt Go.RowKit
set_option maxRecDepth 100000
set_option maxHeartbeats 4000000
theorem flags_cells {cs : List Value} (h : All2 FK.ok [.bool, .bool, .bool] cs) : ∃ x y z : Bool, cs = [.bool x, .bool y, .bool z] := by
  cases h with
  | cons a1 h => cases h with
    | cons a2 h => cases h with
      | cons a3 h =>
        cases h
        obtain ⟨x, rfl⟩ := a1
        obtain ⟨y, rfl⟩ := a2
        obtain ⟨z, rfl⟩ := a3
        exact ⟨x, y, z, rfl⟩
theorem flags_of {H : Type} {enc : TypeId × Value → H} {W0 : World} {r : Reach} {b0 base : Nat} {spare : Nat → Bool} {held : Bool} {v : Value} {dd : DataW H} {ps : List MemPlace} (hval : Value.okWide Tryd.prog W0 r b0 25 v)
    (h : DataW.Trod enc Tryd.prog W0 base spare held 25 v dd ps) : ∃ x y z : Bool, v = .agg #[.bool x, .bool y, .bool z] := by
  obtain ⟨x, y, z, hw⟩ := flags_cells (flat_of_Trod kids (d := 8) (ks := [.bool, .bool, .bool]) (by show _ < _; decide +kernel) (by kernel_rfl) h)
  obtain ⟨e, hu⟩ : ∃ e, Tryd.prog.underlying 25 = some (.array 3 e) := ⟨4, by kernel_rfl⟩
  simp only [Value.okWide, hu] at hval
  obtain ⟨cs, rfl, h2, _⟩ := hval
  refine ⟨x, y, z, ?_⟩
  rw [show (#[.bool x, .bool y, .bool z] : Array Value) = [Value.bool x, .bool y, .bool z].toArray from rfl, ← hw]
  rfl
end Go.Proofs.YtfioapldbajpmaaDoor
