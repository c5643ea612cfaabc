/- Whatever the texts, the raw items, the word, the raw place and the mark: items may be, are told and read as the document says. -/
import Derived.Test.YtolmipnaheifcaaGreatDoorZfAl
import Derived.Test.YtolmipnaheifcaaGreatDoorZfAp
import Derived.Test.YtolmipnaheifcaaGreatDoorTie
import Derived.Test.YtolmipnaheifcaaGreatDoorCards
import Derived.Lay
import Derived.LaidOnce
import Derived.SizedLaws
import Derived.SevenTiedAt
import Derived.ProofKit
set_option linter.unusedSimpArgs false
set_option linter.unusedVariables false
namespace Go.Proofs.YtolmipnaheifcaaGreatDoor
open Go Go.Ev Go.Proofs Go.ChangeShapes Go.WideShapes Go.ChangeAt Go.RowKit
set_option maxRecDepth 100000
set_option maxHeartbeats 4000000
theorem rlpTells_lifted (os : Os) (started : os.Started) (H : Type) (enc : TypeId × Value → H) :
    ReturnsInHanded {} Tryz.checked os 3 .any (fun w args => (Rows.rlpTellsSpec.pre enc Tryz.prog Tryz.f3 Rows.rlpTellsRow.domain false w args ∧ laidMetH Tryz.prog Rows.rlpTellsRow.laid w) ∧ sizedMet enc Tryz.prog Tryz.f3 (OpenSpec.ofChange Rows.rlpTellsSpec) false w args) (Rows.rlpTellsSpec.post enc Tryz.prog Tryz.f3 false true false false) := by
  refine returnsInHanded_of_change_and (C := Tryz.checked) (X := fun w _ => laidMetH Tryz.prog Rows.rlpTellsRow.laid w) (fun _ _ _ hh h => h.of_heap hh) own started (by kernel_rfl) Tryz.func3
    (ChangeSpec.witness_shaped (enc := enc) (C := Tryz.checked) (os := os) (X := fun w _ => laidMetH Tryz.prog Rows.rlpTellsRow.laid w) false (handW os Rows.rlpTellsRow.laid) #[.string ⟨#[]⟩, .slice none 0 0, .agg #[.int .u64 0, .int .u64 0, .int .u64 0, .int .u64 0], .int .i64 0, .string ⟨#[]⟩, .bool false] 8 (handW_os _ _)
      (World.shaped_of_ZipB (by kernel_rfl) (by kernel_rfl)) (by kernel_rfl) (by kernel_rfl) (by kernel_rfl)
      (handW_met _ (by kernel_rfl) (by kernel_rfl) (by kernel_rfl))) ?_
  intro W base args ds gs before hval0 hW _ hz hlaid _
  have hval : ∀ (j : Nat) t v, Tryz.f3.params[j]? = some t → args[j]? = some v → Value.okWide Tryz.prog W .any base t v := hval0
  have hW' := hW
  obtain ⟨p, q, hA0, hV, rfl, hfz, hnd⟩ := hW
  have hA : DataW.TrodAll enc Tryz.prog W 0 (fun _ => true) true Tryz.f3.params.toList args.toList ds p := hA0
  rw [Tryz.params3] at hA hval hz
  obtain ⟨v0, vs0, d0, ds0, p0, q0, e0, ed0, ep0, h0, hA⟩ := trodAll_cons hA
  obtain ⟨v1, vs1, d1, ds1, p1, q1, e1, ed1, ep1, h1, hA⟩ := trodAll_cons hA
  obtain ⟨v2, vs2, d2, ds2, p2, q2, e2, ed2, ep2, h2, hA⟩ := trodAll_cons hA
  obtain ⟨v3, vs3, d3, ds3, p3, q3, e3, ed3, ep3, h3, hA⟩ := trodAll_cons hA
  obtain ⟨v4, vs4, d4, ds4, p4, q4, e4, ed4, ep4, h4, hA⟩ := trodAll_cons hA
  obtain ⟨v5, vs5, d5, ds5, p5, q5, e5, ed5, ep5, h5, hA⟩ := trodAll_cons hA
  obtain ⟨z1, z2, z3⟩ := trodAll_nil hA
  subst z1 z2
  subst e5 ed5
  subst e4 ed4
  subst e3 ed3
  subst e2 ed2
  subst e1 ed1
  obtain rfl : args = #[v0, v1, v2, v3, v4, v5] := by cases args; simp_all
  subst ed0
  obtain ⟨r0, rfl, hd0, _, _⟩ := Go.ChangeMaps.open_string (show Tryz.prog.underlying 9 = some .string by kernel_rfl) (hval 0 9 v0 rfl rfl) h0
  have hr0 : r0.size < 140737488355328 := by
    have := sized_string hz (j := 0) (bytes := r0.data.toList) rfl (by rw [hd0]; rfl)
    rw [Array.length_toList] at this
    exact Nat.lt_of_le_of_lt this (show reachBytes < 140737488355328 by decide)
  obtain ⟨r1, hr1⟩ := raw6_of (hval 1 22 v1 rfl rfl) h1
  obtain ⟨r2, rfl⟩ := word_of (hval 2 25 v2 rfl rfl) h2
  obtain ⟨r3, rfl, _, _, hr3⟩ := open_int (k := .i64) (show Tryz.prog.underlying 3 = some (.int .i64) by kernel_rfl) (hval 3 3 v3 rfl rfl) h3
  replace hr3 := i64_wf hr3
  obtain ⟨r4, rfl, hd4, _, _⟩ := Go.ChangeMaps.open_string (show Tryz.prog.underlying 9 = some .string by kernel_rfl) (hval 4 9 v4 rfl rfl) h4
  have hr4 : r4.size < 140737488355328 := by
    have := sized_string hz (j := 4) (bytes := r4.data.toList) rfl (by rw [hd4]; rfl)
    rw [Array.length_toList] at this
    exact Nat.lt_of_le_of_lt this (show reachBytes < 140737488355328 by decide)
  obtain ⟨r5, rfl⟩ := okWide_bool (show Tryz.prog.underlying 4 = some .bool by kernel_rfl) (hval 5 4 v5 rfl rfl)
  refine calls_law (rlpTells_ok (errR_of hlaid rfl) (roW_marks W) hr0 hr1.li hr1.cap hr1.in_ hr1.len hr3 hr4) fun W' k1 k2 k3 => ⟨_, rfl, ?_⟩
  refine law_post (tb := 4) kids full (by rw [Tryz.params3]; decide +kernel) rfl (by kernel_rfl) (by kernel_rfl) hW' ?_ k1 k2 k3
  obtain ⟨rfl, rfl⟩ := trodVars_none hV
  rfl
theorem rlpTells_row : Rows.RlpTellsSaid :=
  OpenClaim.holds_of_wide 3 Tryz.f3 rfl rfl rfl rfl rfl rfl rfl ⟨rfl, rfl, rfl, rfl, rfl⟩ rfl rfl rfl rfl rfl (by kernel_rfl) Tryz.func3 (by kernel_rfl)
    (of_decide_eq_true (by kernel_rfl)) (by unfold Func.isWrapper; first | (rw [if_pos (by decide +kernel)]; kernel_rfl) | (rw [if_neg (by decide +kernel)]; exact ⟨rfl, rfl⟩))
    (fun os started H enc _ => rlpTells_lifted os started H enc)
theorem rlpTells_holds : Rows.RlpTellsCardSaid :=
  Claim7.holds_tied_plain_at .later [] [.data, .handle, .pinned] true (true, "912cb0837d9efb50697cf4e26f8e5b10ada957ec6f4e820cef6cba4be946d647") true rlpTells_row (fun _ h => by cases h) (by kernel_rfl) (fun _ h => by cases h) rlpTells_row_tie rfl ⟨rfl, rfl⟩ (by kernel_rfl) rfl
    (fun f fn hf hfn => by
      obtain rfl : f = 3 := Option.some.inj ((show Tryz.prog.funcNamed "railhead/railheadlaw06.RlpTells" = some 3 by kernel_rfl).symm.trans hf) |>.symm
      obtain rfl : fn = Tryz.f3 := (Option.some.inj (Tryz.func3.symm.trans hfn)).symm
      exact ⟨by kernel_rfl, fun j t ht => by
        rw [Tryz.params3] at ht
        have hm : t ∈ [9, 22, 25, 3, 9, 4] := by simpa using Array.mem_of_getElem? ht
        have hall : ([9, 22, 25, 3, 9, 4].all fun u => !Tryz.prog.wantsStandIn u) = true := by kernel_rfl
        exact (show Tryz.prog.wantsStandIn t = false by simpa using List.all_eq_true.1 hall t hm)⟩)
    (by kernel_rfl)
#print axioms rlpTells_holds
end Go.Proofs.YtolmipnaheifcaaGreatDoor
