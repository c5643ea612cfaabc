/- R2: lists of numbers, as a row hands them. -/
import Derived.Test.YtfioapldbajpmaaDoorR0
import Derived.Test.YtfioapldbajpmaaDoorGn
set_option linter.unusedSimpArgs false
set_option linter.unusedVariables false
namespace Go.Proofs.YtfioapldbajpmaaDoor
open Go Go.Ev Go.Proofs Go.ChangeShapes Go.WideShapes Go.ChangeAt Go.RowKit
set_option maxRecDepth 100000
set_option maxHeartbeats 4000000
theorem ints_of {H : Type} {enc : TypeId × Value → H} {W : World} {r : Reach} {b0 base : Nat} {spare : Nat → Bool} {held : Bool} {v : Value} {dd : DataW H} {ps : List MemPlace} (hval : Value.okWide Tryd.prog W r b0 33 v)
    (h : DataW.Trod enc Tryd.prog W base spare held 33 v dd ps) : ∃ l, LiR intC 1 (roW W) l v ∧ ∀ x ∈ l, i64In x := by
  obtain ⟨p, len, cap, f, rfl, hl, hm, hf, hc⟩ := slice_of_trod kids (d := 8) (t := 33) (e := 3) (ks := [.int .i64]) (by kernel_rfl) (by show _ < _; decide +kernel) (by kernel_rfl) (by decide +kernel) hval h
  obtain ⟨g, hg⟩ := Deep.choose_lt (α := Int) (n := len) (p := fun i x => f i = intC x ∧ i64In x) fun i hi => by
    have h2 := hf i hi
    generalize f i = cs at h2 ⊢
    cases h2 with
    | cons a1 h3 =>
      cases h3
      obtain ⟨x, rfl, wx⟩ := a1
      exact ⟨x, rfl, i64_wf wx⟩
  refine ⟨(List.range len).map g, ⟨p, cap, by simp, ?_⟩, fun x hx => ?_⟩
  · rcases hc with rfl | ⟨b, o, rfl, hc⟩
    · exact .inl rfl
    · refine .inr ⟨b, o, rfl, ?_⟩
      rw [show Tryd.prog.cellsOf 3 = 1 by decide +kernel] at hc
      simp only [List.length_map, List.length_range]
      rw [hc, List.flatMap_map, List.flatMap_def, List.flatMap_def]
      congr 2
      exact List.map_congr_left fun i hi => (hg i (List.mem_range.1 hi)).1
  · obtain ⟨i, hi, rfl⟩ := List.mem_map.1 hx
    exact (hg i (List.mem_range.1 hi)).2
end Go.Proofs.YtfioapldbajpmaaDoor
