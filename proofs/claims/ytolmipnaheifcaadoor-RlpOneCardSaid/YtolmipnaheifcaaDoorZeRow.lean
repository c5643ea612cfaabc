/- Whatever the text, the raw items, the raw place and the other text: what is decoded is right, and encoded it is the same bytes. -/
import Derived.Test.YtolmipnaheifcaaDoorZeAl
import Derived.Test.YtolmipnaheifcaaDoorZeAm
import Derived.Test.YtolmipnaheifcaaDoorTie
import Derived.Test.YtolmipnaheifcaaDoorCards
import Derived.Lay
import Derived.LaidOnce
import Derived.SizedLaws
import Derived.SevenTiedAt
import Derived.ProofKit
set_option linter.unusedSimpArgs false
set_option linter.unusedVariables false
namespace Go.Proofs.YtolmipnaheifcaaDoor
open Go Go.Ev Go.Proofs Go.ChangeShapes Go.WideShapes Go.ChangeAt Go.RowKit
set_option maxRecDepth 100000
set_option maxHeartbeats 4000000
theorem rlpOne_lifted (os : Os) (started : os.Started) (H : Type) (enc : TypeId × Value → H) :
    ReturnsInHanded {} Tryd.checked os 3 .any (fun w args => (Rows.rlpOneSpec.pre enc Tryd.prog Tryd.f3 Rows.rlpOneRow.domain false w args ∧ laidMetH Tryd.prog Rows.rlpOneRow.laid w) ∧ sizedMet enc Tryd.prog Tryd.f3 (OpenSpec.ofChange Rows.rlpOneSpec) false w args) (Rows.rlpOneSpec.post enc Tryd.prog Tryd.f3 false true false false) := by
  refine returnsInHanded_of_change_and (C := Tryd.checked) (X := fun w _ => laidMetH Tryd.prog Rows.rlpOneRow.laid w) (fun _ _ _ hh h => h.of_heap hh) own started (by kernel_rfl) Tryd.func3
    (ChangeSpec.witness_shaped (enc := enc) (C := Tryd.checked) (os := os) (X := fun w _ => laidMetH Tryd.prog Rows.rlpOneRow.laid w) false (handW os Rows.rlpOneRow.laid) #[.string ⟨#[]⟩, .slice none 0 0, .int .i64 0, .string ⟨#[]⟩] 8 (handW_os _ _)
      (World.shaped_of_ZipB (by kernel_rfl) (by kernel_rfl)) (by kernel_rfl) (by kernel_rfl) (by kernel_rfl)
      (handW_met _ (by kernel_rfl) (by kernel_rfl) (by kernel_rfl))) ?_
  intro W base args ds gs before hval0 hW _ hz hlaid _
  have hval : ∀ (j : Nat) t v, Tryd.f3.params[j]? = some t → args[j]? = some v → Value.okWide Tryd.prog W .any base t v := hval0
  have hW' := hW
  obtain ⟨p, q, hA0, hV, rfl, hfz, hnd⟩ := hW
  have hA : DataW.TrodAll enc Tryd.prog W 0 (fun _ => true) true Tryd.f3.params.toList args.toList ds p := hA0
  rw [Tryd.params3] at hA hval hz
  obtain ⟨v0, vs0, d0, ds0, p0, q0, e0, ed0, ep0, h0, hA⟩ := trodAll_cons hA
  obtain ⟨v1, vs1, d1, ds1, p1, q1, e1, ed1, ep1, h1, hA⟩ := trodAll_cons hA
  obtain ⟨v2, vs2, d2, ds2, p2, q2, e2, ed2, ep2, h2, hA⟩ := trodAll_cons hA
  obtain ⟨v3, vs3, d3, ds3, p3, q3, e3, ed3, ep3, h3, hA⟩ := trodAll_cons hA
  obtain ⟨z1, z2, z3⟩ := trodAll_nil hA
  subst z1 z2
  subst e3 ed3
  subst e2 ed2
  subst e1 ed1
  obtain rfl : args = #[v0, v1, v2, v3] := by cases args; simp_all
  subst ed0
  obtain ⟨r0, rfl, hd0, _, _⟩ := Go.ChangeMaps.open_string (show Tryd.prog.underlying 9 = some .string by kernel_rfl) (hval 0 9 v0 rfl rfl) h0
  have hr0 : r0.size < 140737488355328 := by
    have := sized_string hz (j := 0) (bytes := r0.data.toList) rfl (by rw [hd0]; rfl)
    rw [Array.length_toList] at this
    exact Nat.lt_of_le_of_lt this (show reachBytes < 140737488355328 by decide)
  obtain ⟨r1, hr1⟩ := raw6_of (hval 1 22 v1 rfl rfl) h1
  obtain ⟨r2, rfl, _, _, hr2⟩ := open_int (k := .i64) (show Tryd.prog.underlying 3 = some (.int .i64) by kernel_rfl) (hval 2 3 v2 rfl rfl) h2
  replace hr2 := i64_wf hr2
  obtain ⟨r3, rfl, hd3, _, _⟩ := Go.ChangeMaps.open_string (show Tryd.prog.underlying 9 = some .string by kernel_rfl) (hval 3 9 v3 rfl rfl) h3
  have hr3 : r3.size < 140737488355328 := by
    have := sized_string hz (j := 3) (bytes := r3.data.toList) rfl (by rw [hd3]; rfl)
    rw [Array.length_toList] at this
    exact Nat.lt_of_le_of_lt this (show reachBytes < 140737488355328 by decide)
  refine calls_law (rlpOne_ok (errR_of hlaid rfl) (roW_marks W) hr0 hr1.li hr1.cap hr1.in_ hr1.len hr2 hr3) fun W' k1 k2 k3 => ⟨_, rfl, ?_⟩
  refine law_post (tb := 4) kids full (by rw [Tryd.params3]; decide +kernel) rfl (by kernel_rfl) (by kernel_rfl) hW' ?_ k1 k2 k3
  obtain ⟨rfl, rfl⟩ := trodVars_none hV
  rfl
theorem rlpOne_row : Rows.RlpOneSaid :=
  OpenClaim.holds_of_wide 3 Tryd.f3 rfl rfl rfl rfl rfl rfl rfl ⟨rfl, rfl, rfl, rfl, rfl⟩ rfl rfl rfl rfl rfl (by kernel_rfl) Tryd.func3 (by kernel_rfl)
    (of_decide_eq_true (by kernel_rfl)) (by unfold Func.isWrapper; first | (rw [if_pos (by decide +kernel)]; kernel_rfl) | (rw [if_neg (by decide +kernel)]; exact ⟨rfl, rfl⟩))
    (fun os started H enc _ => rlpOne_lifted os started H enc)
theorem rlpOne_holds : Rows.RlpOneCardSaid :=
  Claim7.holds_tied_plain_at .later [] [.data, .handle, .pinned] true (true, "a941ac3e3f2b9ac113a7bb1806d98c3493e471037c7c7e838f3c1d3fe34fd6d7") true rlpOne_row (fun _ h => by cases h) (by kernel_rfl) (fun _ h => by cases h) rlpOne_row_tie rfl ⟨rfl, rfl⟩ (by kernel_rfl) rfl
    (fun f fn hf hfn => by
      obtain rfl : f = 3 := Option.some.inj ((show Tryd.prog.funcNamed "railhead/railheadlaw06.RlpOne" = some 3 by kernel_rfl).symm.trans hf) |>.symm
      obtain rfl : fn = Tryd.f3 := (Option.some.inj (Tryd.func3.symm.trans hfn)).symm
      exact ⟨by kernel_rfl, fun j t ht => by
        rw [Tryd.params3] at ht
        have hm : t ∈ [9, 22, 3, 9] := by simpa using Array.mem_of_getElem? ht
        have hall : ([9, 22, 3, 9].all fun u => !Tryd.prog.wantsStandIn u) = true := by kernel_rfl
        exact (show Tryd.prog.wantsStandIn t = false by simpa using List.all_eq_true.1 hall t hm)⟩)
    (by kernel_rfl)
#print axioms rlpOne_holds
end Go.Proofs.YtolmipnaheifcaaDoor
