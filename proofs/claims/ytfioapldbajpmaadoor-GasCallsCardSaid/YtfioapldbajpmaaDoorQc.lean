/- GasCalls returns true whatever the numbers and the flags are. Its conditions: none. -/
import Derived.Test.YtfioapldbajpmaaDoorR1
import Derived.Test.YtfioapldbajpmaaDoorGl
import Derived.Test.YtfioapldbajpmaaDoorTie
import Derived.Test.YtfioapldbajpmaaDoorCards
import Derived.Lay
import Derived.LaidOnce
import Derived.SizedLaws
import Derived.SevenTiedAt
import Derived.ProofKit
set_option linter.unusedSimpArgs false
set_option linter.unusedVariables false
namespace Go.Proofs.YtfioapldbajpmaaDoor
open Go Go.Ev Go.Proofs Go.ChangeShapes Go.WideShapes Go.ChangeAt Go.RowKit
set_option maxRecDepth 100000
set_option maxHeartbeats 4000000
theorem gasCalls_lifted (os : Os) (started : os.Started) (H : Type) (enc : TypeId × Value → H) :
    ReturnsInHanded {} Tryd.checked os 5 .any (fun w args => (Rows.gasCallsSpec.pre enc Tryd.prog Tryd.f5 Rows.gasCallsRow.domain false w args ∧ laidMetH Tryd.prog Rows.gasCallsRow.laid w) ∧ sizedMet enc Tryd.prog Tryd.f5 (OpenSpec.ofChange Rows.gasCallsSpec) false w args) (Rows.gasCallsSpec.post enc Tryd.prog Tryd.f5 false true false false) := by
  refine returnsInHanded_of_change_and (C := Tryd.checked) (X := fun w _ => laidMetH Tryd.prog Rows.gasCallsRow.laid w) (fun _ _ _ hh h => h.of_heap hh) own started (by kernel_rfl) Tryd.func5
    (ChangeSpec.witness_shaped (enc := enc) (C := Tryd.checked) (os := os) (X := fun w _ => laidMetH Tryd.prog Rows.gasCallsRow.laid w) false (World.laidAll Tryd.prog os Rows.gasCallsRow.laid) #[.int .i64 0, .int .i64 0, .int .i64 0, .agg #[.bool false, .bool false, .bool false]] 8 (World.laidAll_os _ _ _)
      (World.shaped_of_ZipB (by kernel_rfl) (by kernel_rfl)) (by kernel_rfl) (by kernel_rfl) (by kernel_rfl)
      (by rw [MakeChecks.laidMetH_plain _ _ _ (by kernel_rfl)]; exact laidMet_laidAll _ (by kernel_rfl) (by kernel_rfl))) ?_
  intro W base args ds gs before hval0 hW _ hz _ _
  have hval : ∀ (j : Nat) t v, Tryd.f5.params[j]? = some t → args[j]? = some v → Value.okWide Tryd.prog W .any base t v := hval0
  have hW' := hW
  obtain ⟨p, q, hA0, hV, rfl, hfz, hnd⟩ := hW
  have hA : DataW.TrodAll enc Tryd.prog W 0 (fun _ => true) true Tryd.f5.params.toList args.toList ds p := hA0
  rw [Tryd.params5] at hA hval hz
  obtain ⟨v0, vs0, d0, ds0, p0, q0, e0, ed0, ep0, h0, hA⟩ := trodAll_cons hA
  obtain ⟨v1, vs1, d1, ds1, p1, q1, e1, ed1, ep1, h1, hA⟩ := trodAll_cons hA
  obtain ⟨v2, vs2, d2, ds2, p2, q2, e2, ed2, ep2, h2, hA⟩ := trodAll_cons hA
  obtain ⟨v3, vs3, d3, ds3, p3, q3, e3, ed3, ep3, h3, hA⟩ := trodAll_cons hA
  obtain ⟨z1, z2, z3⟩ := trodAll_nil hA
  subst z1 z2
  subst e3 ed3
  subst e2 ed2
  subst e1 ed1
  obtain rfl : args = #[v0, v1, v2, v3] := by cases args; simp_all
  subst ed0
  obtain ⟨r0, rfl, _, _, hr0⟩ := open_int (k := .i64) (show Tryd.prog.underlying 3 = some (.int .i64) by kernel_rfl) (hval 0 3 v0 rfl rfl) h0
  replace hr0 := i64_wf hr0
  obtain ⟨r1, rfl, _, _, hr1⟩ := open_int (k := .i64) (show Tryd.prog.underlying 3 = some (.int .i64) by kernel_rfl) (hval 1 3 v1 rfl rfl) h1
  replace hr1 := i64_wf hr1
  obtain ⟨r2, rfl, _, _, hr2⟩ := open_int (k := .i64) (show Tryd.prog.underlying 3 = some (.int .i64) by kernel_rfl) (hval 2 3 v2 rfl rfl) h2
  replace hr2 := i64_wf hr2
  obtain ⟨r3, r3', r3'', rfl⟩ := flags_of (hval 3 25 v3 rfl rfl) h3
  refine calls_law ((gasCalls_ok r0 r1 r2 r3 r3' r3'' hr0 hr1 hr2).onto (roW_marks W)) fun W' k1 k2 k3 => ⟨_, rfl, ?_⟩
  refine law_post (tb := 4) kids full (by rw [Tryd.params5]; decide +kernel) rfl (by kernel_rfl) (by kernel_rfl) hW' ?_ k1 k2 k3
  obtain ⟨rfl, rfl⟩ := trodVars_none hV
  rfl
theorem gasCalls_row : Rows.GasCallsSaid :=
  OpenClaim.holds_of_wide 5 Tryd.f5 rfl rfl rfl rfl rfl rfl rfl ⟨rfl, rfl, rfl, rfl, rfl⟩ rfl rfl rfl rfl rfl (by kernel_rfl) Tryd.func5 (by kernel_rfl)
    (of_decide_eq_true (by kernel_rfl)) (by unfold Func.isWrapper; first | (rw [if_pos (by decide +kernel)]; kernel_rfl) | (rw [if_neg (by decide +kernel)]; exact ⟨rfl, rfl⟩))
    (fun os started H enc _ => gasCalls_lifted os started H enc)
theorem gasCalls_holds : Rows.GasCallsCardSaid :=
  Claim7.holds_tied_plain_at .later [] [.data,.pinned] true (true, "395d2463c8b2493250b593fac780326b0201a51d921835e66b7a0b9bbc88550d") false gasCalls_row (fun _ h => by cases h) (by kernel_rfl) (fun _ h => by cases h) gasCalls_row_tie rfl ⟨rfl, rfl⟩ (by kernel_rfl) rfl
    (fun f fn hf hfn => by
      obtain rfl : f = 5 := Option.some.inj ((show Tryd.prog.funcNamed "railhead/railheadlaw15.GasCalls" = some 5 by kernel_rfl).symm.trans hf) |>.symm
      obtain rfl : fn = Tryd.f5 := (Option.some.inj (Tryd.func5.symm.trans hfn)).symm
      exact ⟨by kernel_rfl, fun j t ht => by
        rw [Tryd.params5] at ht
        have hm : t ∈ [3, 3, 3, 25] := by simpa using Array.mem_of_getElem? ht
        have hall : ([3, 3, 3, 25].all fun u => !Tryd.prog.wantsStandIn u) = true := by kernel_rfl
        exact (show Tryd.prog.wantsStandIn t = false by simpa using List.all_eq_true.1 hall t hm)⟩)
    (by kernel_rfl)
#print axioms gasCalls_holds
end Go.Proofs.YtfioapldbajpmaaDoor
