/- GasTells returns true whatever the words, numbers, sets and texts are. Its conditions: none. -/
import Derived.Test.YtfioapldbajpmaaDoorR1
import Derived.Test.YtfioapldbajpmaaDoorR3
import Derived.Test.YtfioapldbajpmaaDoorGr
import Derived.Test.YtfioapldbajpmaaDoorTie
import Derived.Test.YtfioapldbajpmaaDoorCards
import Derived.Lay
import Derived.LaidOnce
import Derived.SizedLaws
import Derived.SevenTiedAt
import Derived.ProofKit
set_option linter.unusedSimpArgs false
set_option linter.unusedVariables false
namespace Go.Proofs.YtfioapldbajpmaaDoor
open Go Go.Ev Go.Proofs Go.ChangeShapes Go.WideShapes Go.ChangeAt Go.RowKit
set_option maxRecDepth 100000
set_option maxHeartbeats 4000000
theorem gasTells_lifted (os : Os) (started : os.Started) (H : Type) (enc : TypeId × Value → H) :
    ReturnsInHanded {} Tryd.checked os 3 .any (fun w args => (Rows.gasTellsSpec.pre enc Tryd.prog Tryd.f3 Rows.gasTellsRow.domain false w args ∧ laidMetH Tryd.prog Rows.gasTellsRow.laid w) ∧ sizedMet enc Tryd.prog Tryd.f3 (OpenSpec.ofChange Rows.gasTellsSpec) false w args) (Rows.gasTellsSpec.post enc Tryd.prog Tryd.f3 false true false false) := by
  refine returnsInHanded_of_change_and (C := Tryd.checked) (X := fun w _ => laidMetH Tryd.prog Rows.gasTellsRow.laid w) (fun _ _ _ hh h => h.of_heap hh) own started (by kernel_rfl) Tryd.func3
    (ChangeSpec.witness_shaped (enc := enc) (C := Tryd.checked) (os := os) (X := fun w _ => laidMetH Tryd.prog Rows.gasTellsRow.laid w) false (World.laidAll Tryd.prog os Rows.gasTellsRow.laid) #[.agg #[.int .u64 0, .int .u64 0, .int .u64 0, .int .u64 0], .agg #[.int .u64 0, .int .u64 0, .int .u64 0, .int .u64 0], .agg #[.int .u64 0, .int .u64 0, .int .u64 0, .int .u64 0], .int .i64 0, .int .i64 0, .agg #[.bool false, .bool false, .bool false], .agg #[.slice none 0 0, .slice none 0 0], .agg #[.slice none 0 0, .slice none 0 0], .string ⟨#[]⟩] 8 (World.laidAll_os _ _ _)
      (World.shaped_of_ZipB (by kernel_rfl) (by kernel_rfl)) (by kernel_rfl) (by kernel_rfl) (by kernel_rfl)
      (by rw [MakeChecks.laidMetH_plain _ _ _ (by kernel_rfl)]; exact laidMet_laidAll _ (by kernel_rfl) (by kernel_rfl))) ?_
  intro W base args ds gs before hval0 hW _ hz _ _
  have hval : ∀ (j : Nat) t v, Tryd.f3.params[j]? = some t → args[j]? = some v → Value.okWide Tryd.prog W .any base t v := hval0
  have hW' := hW
  obtain ⟨p, q, hA0, hV, rfl, hfz, hnd⟩ := hW
  have hA : DataW.TrodAll enc Tryd.prog W 0 (fun _ => true) true Tryd.f3.params.toList args.toList ds p := hA0
  rw [Tryd.params3] at hA hval hz
  obtain ⟨v0, vs0, d0, ds0, p0, q0, e0, ed0, ep0, h0, hA⟩ := trodAll_cons hA
  obtain ⟨v1, vs1, d1, ds1, p1, q1, e1, ed1, ep1, h1, hA⟩ := trodAll_cons hA
  obtain ⟨v2, vs2, d2, ds2, p2, q2, e2, ed2, ep2, h2, hA⟩ := trodAll_cons hA
  obtain ⟨v3, vs3, d3, ds3, p3, q3, e3, ed3, ep3, h3, hA⟩ := trodAll_cons hA
  obtain ⟨v4, vs4, d4, ds4, p4, q4, e4, ed4, ep4, h4, hA⟩ := trodAll_cons hA
  obtain ⟨v5, vs5, d5, ds5, p5, q5, e5, ed5, ep5, h5, hA⟩ := trodAll_cons hA
  obtain ⟨v6, vs6, d6, ds6, p6, q6, e6, ed6, ep6, h6, hA⟩ := trodAll_cons hA
  obtain ⟨v7, vs7, d7, ds7, p7, q7, e7, ed7, ep7, h7, hA⟩ := trodAll_cons hA
  obtain ⟨v8, vs8, d8, ds8, p8, q8, e8, ed8, ep8, h8, hA⟩ := trodAll_cons hA
  obtain ⟨z1, z2, z3⟩ := trodAll_nil hA
  subst z1 z2
  subst e8 ed8
  subst e7 ed7
  subst e6 ed6
  subst e5 ed5
  subst e4 ed4
  subst e3 ed3
  subst e2 ed2
  subst e1 ed1
  obtain rfl : args = #[v0, v1, v2, v3, v4, v5, v6, v7, v8] := by cases args; simp_all
  subst ed0
  obtain ⟨r0, rfl⟩ := word_of (hval 0 24 v0 rfl rfl) h0
  obtain ⟨r1, rfl⟩ := word_of (hval 1 24 v1 rfl rfl) h1
  obtain ⟨r2, rfl⟩ := word_of (hval 2 24 v2 rfl rfl) h2
  obtain ⟨r3, rfl, _, _, hr3⟩ := open_int (k := .i64) (show Tryd.prog.underlying 3 = some (.int .i64) by kernel_rfl) (hval 3 3 v3 rfl rfl) h3
  replace hr3 := i64_wf hr3
  obtain ⟨r4, rfl, _, _, hr4⟩ := open_int (k := .i64) (show Tryd.prog.underlying 3 = some (.int .i64) by kernel_rfl) (hval 4 3 v4 rfl rfl) h4
  replace hr4 := i64_wf hr4
  obtain ⟨r5, r5', r5'', rfl⟩ := flags_of (hval 5 25 v5 rfl rfl) h5
  obtain ⟨u6, u6', r6, r6', rfl, hr6, hr6', hb6, hb6'⟩ := sets2_of (hval 6 27 v6 rfl rfl) h6
  obtain ⟨u7, u7', r7, r7', rfl, hr7, hr7', hcp7, hcp7'⟩ := sets_of (hval 7 30 v7 rfl rfl) h7
  obtain ⟨r8, rfl, hd8, _, _⟩ := Go.ChangeMaps.open_string (show Tryd.prog.underlying 9 = some .string by kernel_rfl) (hval 8 9 v8 rfl rfl) h8
  have hr8 : r8.size < 140737488355328 := by
    have := sized_string hz (j := 8) (bytes := r8.data.toList) rfl (by rw [hd8]; rfl)
    rw [Array.length_toList] at this
    exact Nat.lt_of_le_of_lt this (show reachBytes < 140737488355328 by decide)
  refine calls_law (gasTells_ok hr3 hr4 hr6 hr6' hb6 hb6' hr7 hr7' (roW_marks W) hcp7 hcp7') fun W' k1 k2 k3 => ⟨_, rfl, ?_⟩
  refine law_post (tb := 4) kids full (by rw [Tryd.params3]; decide +kernel) rfl (by kernel_rfl) (by kernel_rfl) hW' ?_ k1 k2 k3
  obtain ⟨rfl, rfl⟩ := trodVars_none hV
  rfl
theorem gasTells_row : Rows.GasTellsSaid :=
  OpenClaim.holds_of_wide 3 Tryd.f3 rfl rfl rfl rfl rfl rfl rfl ⟨rfl, rfl, rfl, rfl, rfl⟩ rfl rfl rfl rfl rfl (by kernel_rfl) Tryd.func3 (by kernel_rfl)
    (of_decide_eq_true (by kernel_rfl)) (by unfold Func.isWrapper; first | (rw [if_pos (by decide +kernel)]; kernel_rfl) | (rw [if_neg (by decide +kernel)]; exact ⟨rfl, rfl⟩))
    (fun os started H enc _ => gasTells_lifted os started H enc)
theorem gasTells_holds : Rows.GasTellsCardSaid :=
  Claim7.holds_tied_plain_at .later [] [.data,.pinned] true (true, "395d2463c8b2493250b593fac780326b0201a51d921835e66b7a0b9bbc88550d") false gasTells_row (fun _ h => by cases h) (by kernel_rfl) (fun _ h => by cases h) gasTells_row_tie rfl ⟨rfl, rfl⟩ (by kernel_rfl) rfl
    (fun f fn hf hfn => by
      obtain rfl : f = 3 := Option.some.inj ((show Tryd.prog.funcNamed "railhead/railheadlaw15.GasTells" = some 3 by kernel_rfl).symm.trans hf) |>.symm
      obtain rfl : fn = Tryd.f3 := (Option.some.inj (Tryd.func3.symm.trans hfn)).symm
      exact ⟨by kernel_rfl, fun j t ht => by
        rw [Tryd.params3] at ht
        have hm : t ∈ [24, 24, 24, 3, 3, 25, 27, 30, 9] := by simpa using Array.mem_of_getElem? ht
        have hall : ([24, 24, 24, 3, 3, 25, 27, 30, 9].all fun u => !Tryd.prog.wantsStandIn u) = true := by kernel_rfl
        exact (show Tryd.prog.wantsStandIn t = false by simpa using List.all_eq_true.1 hall t hm)⟩)
    (by kernel_rfl)
#print axioms gasTells_holds
end Go.Proofs.YtfioapldbajpmaaDoor
