/- WordTells returns true whatever the words, numbers and texts are. Its conditions: the listed tables of Go's library are as the text lays them (the card ties them). -/
import Derived.Test.YtndioekjgmbomaaDoorR0
import Derived.Test.YtndioekjgmbomaaDoorHo
import Derived.Test.YtndioekjgmbomaaDoorTie
import Derived.Test.YtndioekjgmbomaaDoorCards
import Derived.Lay
import Derived.LaidOnce
import Derived.SizedLaws
import Derived.SevenTiedAt
import Derived.ProofKit
set_option linter.unusedSimpArgs false
set_option linter.unusedVariables false
namespace Go.Proofs.YtndioekjgmbomaaDoor
open Go Go.Ev Go.Proofs Go.ChangeShapes Go.WideShapes Go.ChangeAt Go.RowKit
set_option maxRecDepth 100000
set_option maxHeartbeats 4000000
theorem wordTells_lifted (os : Os) (started : os.Started) (H : Type) (enc : TypeId × Value → H) :
    ReturnsInHanded {} Tryd.checked os 3 .any (fun w args => (Rows.wordTellsSpec.pre enc Tryd.prog Tryd.f3 Rows.wordTellsRow.domain false w args ∧ laidMetH Tryd.prog Rows.wordTellsRow.laid w) ∧ sizedMet enc Tryd.prog Tryd.f3 (OpenSpec.ofChange Rows.wordTellsSpec) false w args) (Rows.wordTellsSpec.post enc Tryd.prog Tryd.f3 false true false false) := by
  refine returnsInHanded_of_change_and (C := Tryd.checked) (X := fun w _ => laidMetH Tryd.prog Rows.wordTellsRow.laid w) (fun _ _ _ hh h => h.of_heap hh) own started (by kernel_rfl) Tryd.func3
    (ChangeSpec.witness_shaped (enc := enc) (C := Tryd.checked) (os := os) (X := fun w _ => laidMetH Tryd.prog Rows.wordTellsRow.laid w) false (World.laidAll Tryd.prog os Rows.wordTellsRow.laid) #[.agg #[.int .u64 0, .int .u64 0, .int .u64 0, .int .u64 0], .agg #[.int .u64 0, .int .u64 0, .int .u64 0, .int .u64 0], .int .i64 0, .string ⟨#[]⟩, .int .i64 0, .string ⟨#[]⟩] 8 (World.laidAll_os _ _ _)
      (World.shaped_of_ZipB (by kernel_rfl) (by kernel_rfl)) (by kernel_rfl) (by kernel_rfl) (by kernel_rfl)
      (by rw [MakeChecks.laidMetH_plain _ _ _ (by kernel_rfl)]; exact laidMet_laidAll _ (by kernel_rfl) (by kernel_rfl))) ?_
  intro W base args ds gs before hval0 hW _ hz _ _
  have hval : ∀ (j : Nat) t v, Tryd.f3.params[j]? = some t → args[j]? = some v → Value.okWide Tryd.prog W .any base t v := hval0
  have hW' := hW
  obtain ⟨p, q, hA0, hV, rfl, hfz, hnd⟩ := hW
  have hA : DataW.TrodAll enc Tryd.prog W 0 (fun _ => true) true Tryd.f3.params.toList args.toList ds p := hA0
  rw [Tryd.params3] at hA hval hz
  obtain ⟨v0, vs0, d0, ds0, p0, q0, e0, ed0, ep0, h0, hA⟩ := trodAll_cons hA
  obtain ⟨v1, vs1, d1, ds1, p1, q1, e1, ed1, ep1, h1, hA⟩ := trodAll_cons hA
  obtain ⟨v2, vs2, d2, ds2, p2, q2, e2, ed2, ep2, h2, hA⟩ := trodAll_cons hA
  obtain ⟨v3, vs3, d3, ds3, p3, q3, e3, ed3, ep3, h3, hA⟩ := trodAll_cons hA
  obtain ⟨v4, vs4, d4, ds4, p4, q4, e4, ed4, ep4, h4, hA⟩ := trodAll_cons hA
  obtain ⟨v5, vs5, d5, ds5, p5, q5, e5, ed5, ep5, h5, hA⟩ := trodAll_cons hA
  obtain ⟨z1, z2, z3⟩ := trodAll_nil hA
  subst z1 z2
  subst e5 ed5
  subst e4 ed4
  subst e3 ed3
  subst e2 ed2
  subst e1 ed1
  obtain rfl : args = #[v0, v1, v2, v3, v4, v5] := by cases args; simp_all
  subst ed0
  obtain ⟨r0, rfl⟩ := word_of (hval 0 24 v0 rfl rfl) h0
  obtain ⟨r1, rfl⟩ := word_of (hval 1 24 v1 rfl rfl) h1
  obtain ⟨r2, rfl, _, _, hr2⟩ := open_int (k := .i64) (show Tryd.prog.underlying 3 = some (.int .i64) by kernel_rfl) (hval 2 3 v2 rfl rfl) h2
  replace hr2 := i64_wf hr2
  obtain ⟨r3, rfl, hd3, _, _⟩ := Go.ChangeMaps.open_string (show Tryd.prog.underlying 9 = some .string by kernel_rfl) (hval 3 9 v3 rfl rfl) h3
  have hr3 : r3.size < 140737488355328 := by
    have := sized_string hz (j := 3) (bytes := r3.data.toList) rfl (by rw [hd3]; rfl)
    rw [Array.length_toList] at this
    exact Nat.lt_of_le_of_lt this (show reachBytes < 140737488355328 by decide)
  obtain ⟨r4, rfl, _, _, hr4⟩ := open_int (k := .i64) (show Tryd.prog.underlying 3 = some (.int .i64) by kernel_rfl) (hval 4 3 v4 rfl rfl) h4
  replace hr4 := i64_wf hr4
  obtain ⟨r5, rfl, hd5, _, _⟩ := Go.ChangeMaps.open_string (show Tryd.prog.underlying 9 = some .string by kernel_rfl) (hval 5 9 v5 rfl rfl) h5
  have hr5 : r5.size < 140737488355328 := by
    have := sized_string hz (j := 5) (bytes := r5.data.toList) rfl (by rw [hd5]; rfl)
    rw [Array.length_toList] at this
    exact Nat.lt_of_le_of_lt this (show reachBytes < 140737488355328 by decide)
  refine calls_law ((wordTells0 r0 r1 r2 r3 r4 r5 hr2 hr4 hr3 hr5).onto (roW_marks W)) fun W' k1 k2 k3 => ⟨_, rfl, ?_⟩
  refine law_post (tb := 4) kids full (by rw [Tryd.params3]; decide +kernel) rfl (by kernel_rfl) (by kernel_rfl) hW' ?_ k1 k2 k3
  obtain ⟨rfl, rfl⟩ := trodVars_none hV
  rfl
theorem wordTells_row : Rows.WordTellsSaid :=
  OpenClaim.holds_of_wide 3 Tryd.f3 rfl rfl rfl rfl rfl rfl rfl ⟨rfl, rfl, rfl, rfl, rfl⟩ rfl rfl rfl rfl rfl (by kernel_rfl) Tryd.func3 (by kernel_rfl)
    (of_decide_eq_true (by kernel_rfl)) (by unfold Func.isWrapper; first | (rw [if_pos (by decide +kernel)]; kernel_rfl) | (rw [if_neg (by decide +kernel)]; exact ⟨rfl, rfl⟩))
    (fun os started H enc _ => wordTells_lifted os started H enc)
theorem wordTells_holds : Rows.WordTellsCardSaid :=
  Claim7.holds_tied_plain_at .later [] [.data,.pinned] true (true, "ac974b2d759a8d54108c3bc6490d2ce3433f0ae4bb95b620e9a4b1bc5917ce82") false wordTells_row (fun _ h => by cases h) (by kernel_rfl) (fun _ h => by cases h) wordTells_row_tie rfl ⟨rfl, rfl⟩ (by kernel_rfl) rfl
    (fun f fn hf hfn => by
      obtain rfl : f = 3 := Option.some.inj ((show Tryd.prog.funcNamed "railhead/railheadlaw01.WordTells" = some 3 by kernel_rfl).symm.trans hf) |>.symm
      obtain rfl : fn = Tryd.f3 := (Option.some.inj (Tryd.func3.symm.trans hfn)).symm
      exact ⟨by kernel_rfl, fun j t ht => by
        rw [Tryd.params3] at ht
        have hm : t ∈ [24, 24, 3, 9, 3, 9] := by simpa using Array.mem_of_getElem? ht
        have hall : ([24, 24, 3, 9, 3, 9].all fun u => !Tryd.prog.wantsStandIn u) = true := by kernel_rfl
        exact (show Tryd.prog.wantsStandIn t = false by simpa using List.all_eq_true.1 hall t hm)⟩)
    (by kernel_rfl)
#print axioms wordTells_holds
end Go.Proofs.YtndioekjgmbomaaDoor
