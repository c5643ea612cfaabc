/- GasData returns true whatever the texts and sets are. Its conditions: none. -/
import Derived.Test.YtfioapldbajpmaaDoorR3
import Derived.Test.YtfioapldbajpmaaDoorGt
import Derived.Test.YtfioapldbajpmaaDoorTie
import Derived.Test.YtfioapldbajpmaaDoorCards
import Derived.Lay
import Derived.LaidOnce
import Derived.SizedLaws
import Derived.SevenTiedAt
import Derived.ProofKit
set_option linter.unusedSimpArgs false
set_option linter.unusedVariables false
namespace Go.Proofs.YtfioapldbajpmaaDoor
open Go Go.Ev Go.Proofs Go.ChangeShapes Go.WideShapes Go.ChangeAt Go.RowKit
set_option maxRecDepth 100000
set_option maxHeartbeats 4000000
theorem gasData_lifted (os : Os) (started : os.Started) (H : Type) (enc : TypeId × Value → H) :
    ReturnsInHanded {} Tryd.checked os 6 .any (fun w args => (Rows.gasDataSpec.pre enc Tryd.prog Tryd.f6 Rows.gasDataRow.domain false w args ∧ laidMetH Tryd.prog Rows.gasDataRow.laid w) ∧ sizedMet enc Tryd.prog Tryd.f6 (OpenSpec.ofChange Rows.gasDataSpec) false w args) (Rows.gasDataSpec.post enc Tryd.prog Tryd.f6 false true false false) := by
  refine returnsInHanded_of_change_and (C := Tryd.checked) (X := fun w _ => laidMetH Tryd.prog Rows.gasDataRow.laid w) (fun _ _ _ hh h => h.of_heap hh) own started (by kernel_rfl) Tryd.func6
    (ChangeSpec.witness_shaped (enc := enc) (C := Tryd.checked) (os := os) (X := fun w _ => laidMetH Tryd.prog Rows.gasDataRow.laid w) false (World.laidAll Tryd.prog os Rows.gasDataRow.laid) #[.string ⟨#[]⟩, .string ⟨#[]⟩, .agg #[.slice none 0 0, .slice none 0 0]] 8 (World.laidAll_os _ _ _)
      (World.shaped_of_ZipB (by kernel_rfl) (by kernel_rfl)) (by kernel_rfl) (by kernel_rfl) (by kernel_rfl)
      (by rw [MakeChecks.laidMetH_plain _ _ _ (by kernel_rfl)]; exact laidMet_laidAll _ (by kernel_rfl) (by kernel_rfl))) ?_
  intro W base args ds gs before hval0 hW _ hz _ _
  have hval : ∀ (j : Nat) t v, Tryd.f6.params[j]? = some t → args[j]? = some v → Value.okWide Tryd.prog W .any base t v := hval0
  have hW' := hW
  obtain ⟨p, q, hA0, hV, rfl, hfz, hnd⟩ := hW
  have hA : DataW.TrodAll enc Tryd.prog W 0 (fun _ => true) true Tryd.f6.params.toList args.toList ds p := hA0
  rw [Tryd.params6] at hA hval hz
  obtain ⟨v0, vs0, d0, ds0, p0, q0, e0, ed0, ep0, h0, hA⟩ := trodAll_cons hA
  obtain ⟨v1, vs1, d1, ds1, p1, q1, e1, ed1, ep1, h1, hA⟩ := trodAll_cons hA
  obtain ⟨v2, vs2, d2, ds2, p2, q2, e2, ed2, ep2, h2, hA⟩ := trodAll_cons hA
  obtain ⟨z1, z2, z3⟩ := trodAll_nil hA
  subst z1 z2
  subst e2 ed2
  subst e1 ed1
  obtain rfl : args = #[v0, v1, v2] := by cases args; simp_all
  subst ed0
  obtain ⟨r0, rfl, hd0, _, _⟩ := Go.ChangeMaps.open_string (show Tryd.prog.underlying 9 = some .string by kernel_rfl) (hval 0 9 v0 rfl rfl) h0
  have hr0 : r0.size < 140737488355328 := by
    have := sized_string hz (j := 0) (bytes := r0.data.toList) rfl (by rw [hd0]; rfl)
    rw [Array.length_toList] at this
    exact Nat.lt_of_le_of_lt this (show reachBytes < 140737488355328 by decide)
  obtain ⟨r1, rfl, hd1, _, _⟩ := Go.ChangeMaps.open_string (show Tryd.prog.underlying 9 = some .string by kernel_rfl) (hval 1 9 v1 rfl rfl) h1
  have hr1 : r1.size < 140737488355328 := by
    have := sized_string hz (j := 1) (bytes := r1.data.toList) rfl (by rw [hd1]; rfl)
    rw [Array.length_toList] at this
    exact Nat.lt_of_le_of_lt this (show reachBytes < 140737488355328 by decide)
  obtain ⟨u2, u2', r2, r2', rfl, hr2, hr2', hb2, hb2'⟩ := sets2_of (hval 2 27 v2 rfl rfl) h2
  refine calls_law (gasData_ok hr0 hr1 hr2 hr2' hb2 hb2' (roW_marks W)) fun W' k1 k2 k3 => ⟨_, rfl, ?_⟩
  refine law_post (tb := 4) kids full (by rw [Tryd.params6]; decide +kernel) rfl (by kernel_rfl) (by kernel_rfl) hW' ?_ k1 k2 k3
  obtain ⟨rfl, rfl⟩ := trodVars_none hV
  rfl
theorem gasData_row : Rows.GasDataSaid :=
  OpenClaim.holds_of_wide 6 Tryd.f6 rfl rfl rfl rfl rfl rfl rfl ⟨rfl, rfl, rfl, rfl, rfl⟩ rfl rfl rfl rfl rfl (by kernel_rfl) Tryd.func6 (by kernel_rfl)
    (of_decide_eq_true (by kernel_rfl)) (by unfold Func.isWrapper; first | (rw [if_pos (by decide +kernel)]; kernel_rfl) | (rw [if_neg (by decide +kernel)]; exact ⟨rfl, rfl⟩))
    (fun os started H enc _ => gasData_lifted os started H enc)
theorem gasData_holds : Rows.GasDataCardSaid :=
  Claim7.holds_tied_plain_at .later [] [.data,.pinned] true (true, "395d2463c8b2493250b593fac780326b0201a51d921835e66b7a0b9bbc88550d") false gasData_row (fun _ h => by cases h) (by kernel_rfl) (fun _ h => by cases h) gasData_row_tie rfl ⟨rfl, rfl⟩ (by kernel_rfl) rfl
    (fun f fn hf hfn => by
      obtain rfl : f = 6 := Option.some.inj ((show Tryd.prog.funcNamed "railhead/railheadlaw15.GasData" = some 6 by kernel_rfl).symm.trans hf) |>.symm
      obtain rfl : fn = Tryd.f6 := (Option.some.inj (Tryd.func6.symm.trans hfn)).symm
      exact ⟨by kernel_rfl, fun j t ht => by
        rw [Tryd.params6] at ht
        have hm : t ∈ [9, 9, 27] := by simpa using Array.mem_of_getElem? ht
        have hall : ([9, 9, 27].all fun u => !Tryd.prog.wantsStandIn u) = true := by kernel_rfl
        exact (show Tryd.prog.wantsStandIn t = false by simpa using List.all_eq_true.1 hall t hm)⟩)
    (by kernel_rfl)
#print axioms gasData_holds
end Go.Proofs.YtfioapldbajpmaaDoor
