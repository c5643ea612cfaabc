/- R0: what the rows of any seat share. -/
import Derived.Test.YtfioapldbajpmaaDoorWl
import Derived.ChangeMaps5
import Derived.Test.YtfioapldbajpmaaDoorE3
set_option linter.unusedSimpArgs false
set_option linter.unusedVariables false
namespace Go.Proofs.YtfioapldbajpmaaDoor
open Go Go.Ev Go.Proofs Go.ChangeShapes Go.WideShapes Go.ChangeAt Go.RowKit
set_option maxRecDepth 100000
set_option maxHeartbeats 4000000
theorem own : ownKnob Tryd.prog.godebug = none := by kernel_rfl
theorem kids : Kids Tryd.prog (· < Tryd.prog.types.size) := kids_rows (by kernel_rfl) (by kernel_rfl)
theorem full : ∀ t e, t < Tryd.prog.types.size → Tryd.prog.underlying t = some (.slice e) → 0 < Tryd.prog.cellsOf e := slices_full_of Tryd.prog (by kernel_rfl)
theorem i64_wf {n : Int} (h : (Lit.int .i64 n).wf = true) : i64In n := by
  simp [Lit.wf, IntKind.min, IntKind.max, IntKind.signed, IntKind.bits] at h
  exact ⟨by omega, by omega⟩
theorem u64_wf {n : Int} (h : (Lit.int .u64 n).wf = true) : ∃ m : Nat, n = m ∧ m < 18446744073709551616 := by
  simp [Lit.wf, IntKind.min, IntKind.max, IntKind.signed, IntKind.bits] at h
  exact ⟨n.toNat, by omega, by omega⟩
theorem word_cells {cs : List Value} (h : All2 FK.ok [.int .u64, .int .u64, .int .u64, .int .u64] cs) : ∃ w : W, cs = w.cells := by
  cases h with
  | cons a1 h => cases h with
    | cons a2 h => cases h with
      | cons a3 h => cases h with
        | cons a4 h =>
          cases h
          obtain ⟨x1, rfl, w1⟩ := a1
          obtain ⟨x2, rfl, w2⟩ := a2
          obtain ⟨x3, rfl, w3⟩ := a3
          obtain ⟨x4, rfl, w4⟩ := a4
          obtain ⟨y1, rfl, z1⟩ := u64_wf w1
          obtain ⟨y2, rfl, z2⟩ := u64_wf w2
          obtain ⟨y3, rfl, z3⟩ := u64_wf w3
          obtain ⟨y4, rfl, z4⟩ := u64_wf w4
          exact ⟨⟨y1, y2, y3, y4, z1, z2, z3, z4⟩, rfl⟩
theorem word_of {H : Type} {enc : TypeId × Value → H} {W0 : World} {r : Reach} {b0 base : Nat} {spare : Nat → Bool} {held : Bool} {v : Value} {dd : DataW H} {ps : List MemPlace} (hval : Value.okWide Tryd.prog W0 r b0 24 v)
    (h : DataW.Trod enc Tryd.prog W0 base spare held 24 v dd ps) : ∃ w : W, v = w.v := by
  obtain ⟨w, hw⟩ := word_cells (flat_of_Trod kids (d := 8) (ks := [.int .u64, .int .u64, .int .u64, .int .u64]) (by show _ < _; decide +kernel) (by kernel_rfl) h)
  obtain ⟨e, hu⟩ : ∃ e, Tryd.prog.underlying 24 = some (.array 4 e) := ⟨22, by kernel_rfl⟩
  simp only [Value.okWide, hu] at hval
  obtain ⟨cs, rfl, h2, _⟩ := hval
  refine ⟨w, ?_⟩
  unfold W.v
  rw [← hw]
  rfl
/-- a law's call, from its contract -/
theorem calls_law {W : World} {f : FuncId} {args : Array Value} {K : Ending → World → Prop} (h : CallsV Tryd.prog f args.toList (roW W) (Ret0 (.bool true)))
    (hk : ∀ W', W'.os = W.os → W'.output = W.output → (∀ b, b < W.heap.size → W'.heap[b]? = W.heap[b]?) → K (.returned (.bool true)) W') : Calls Tryd.prog f args W K := by
  have h2 := (h.2 W (fun _ => False) W (roW_sat W)).calls (fun k => by unfold Fence.room Fr; simp)
  rw [Array.toArray_toList] at h2
  refine h2.mono ?_
  rintro e W' ⟨v, H', rfl, ⟨rfl, _⟩, hs, _⟩
  exact hk W' hs.os hs.output fun b hb => hs.old b hb id
end Go.Proofs.YtfioapldbajpmaaDoor
