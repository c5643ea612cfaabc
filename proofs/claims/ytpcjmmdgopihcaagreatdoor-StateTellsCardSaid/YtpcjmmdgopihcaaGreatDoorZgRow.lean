/- States, what stands at addresses, and changes, are as the document says. -/
import Derived.Test.YtpcjmmdgopihcaaGreatDoorZgAo
import Derived.Test.YtpcjmmdgopihcaaGreatDoorZgAx
import Derived.Test.YtpcjmmdgopihcaaGreatDoorTie
import Derived.Test.YtpcjmmdgopihcaaGreatDoorCards
import Derived.Lay
import Derived.LaidOnce
import Derived.SizedLaws
import Derived.SevenTiedAt
import Derived.ProofKit
set_option linter.unusedSimpArgs false
set_option linter.unusedVariables false
set_option maxRecDepth 100000
set_option maxHeartbeats 4000000
namespace Go.Proofs.YtpcjmmdgopihcaaGreatDoor
open Go Go.Ev Go.Proofs Go.ChangeShapes Go.WideShapes Go.ChangeAt Go.RowKit
theorem stateTells_lifted (os : Os) (started : os.Started) (H : Type) (enc : TypeId × Value → H) :
  ReturnsInHanded {} Tryz.checked os 3 .any (fun w args => (Rows.stateTellsSpec.pre enc Tryz.prog Tryz.f3 Rows.stateTellsRow.domain false w args ∧ laidMetH Tryz.prog Rows.stateTellsRow.laid w) ∧ sizedMet enc Tryz.prog Tryz.f3 (OpenSpec.ofChange Rows.stateTellsSpec) false w args) (Rows.stateTellsSpec.post enc Tryz.prog Tryz.f3 false true false false) := by
 refine returnsInHanded_of_change_and (C := Tryz.checked) (X := fun w _ => laidMetH Tryz.prog Rows.stateTellsRow.laid w) (fun _ _ _ hh h => h.of_heap hh) own started (by kernel_rfl) Tryz.func3
  (ChangeSpec.witness_shaped (enc := enc) (C := Tryz.checked) (os := os) (X := fun w _ => laidMetH Tryz.prog Rows.stateTellsRow.laid w) false (World.laidAll Tryz.prog os Rows.stateTellsRow.laid) #[.slice none 0 0, .slice none 0 0, .agg #[.int .u8 0, .int .u8 0, .int .u8 0, .int .u8 0, .int .u8 0, .int .u8 0, .int .u8 0, .int .u8 0, .int .u8 0, .int .u8 0, .int .u8 0, .int .u8 0, .int .u8 0, .int .u8 0, .int .u8 0, .int .u8 0, .int .u8 0, .int .u8 0, .int .u8 0, .int .u8 0, .int .u64 0, .int .u64 0, .int .u64 0, .int .u64 0, .int .i64 0, .string ⟨#[]⟩, .slice none 0 0], .agg #[.int .i64 0, .int .u8 0, .int .u8 0, .int .u8 0, .int .u8 0, .int .u8 0, .int .u8 0, .int .u8 0, .int .u8 0, .int .u8 0, .int .u8 0, .int .u8 0, .int .u8 0, .int .u8 0, .int .u8 0, .int .u8 0, .int .u8 0, .int .u8 0, .int .u8 0, .int .u8 0, .int .u8 0, .int .u64 0, .int .u64 0, .int .u64 0, .int .u64 0, .int .u64 0, .int .u64 0, .int .u64 0, .int .u64 0, .int .i64 0, .string ⟨#[]⟩], .agg #[.int .i64 0, .int .i64 0, .int .i64 0, .int .i64 0], .int .i64 0] 8 (World.laidAll_os _ _ _)
   (World.shaped_of_ZipB (by kernel_rfl) (by kernel_rfl)) (by kernel_rfl) (by kernel_rfl) (by kernel_rfl)
   (by rw [MakeChecks.laidMetH_plain _ _ _ (by kernel_rfl)]; exact laidMet_laidAll _ (by kernel_rfl) (by kernel_rfl))) ?_
 intro W base args ds gs before hval0 hW _ hz hlaid _
 have hval : ∀ (j : Nat) t v, Tryz.f3.params[j]? = some t → args[j]? = some v → Value.okWide Tryz.prog W .any base t v := hval0
 have hW' := hW
 obtain ⟨p, q, hA0, hV, rfl, hfz, hnd⟩ := hW
 have hA : DataW.TrodAll enc Tryz.prog W 0 (fun _ => true) true Tryz.f3.params.toList args.toList ds p := hA0
 rw [Tryz.params3] at hA hval hz
 obtain ⟨v0, vs0, d0, ds0, p0, q0, e0, ed0, ep0, h0, hA⟩ := trodAll_cons hA
 obtain ⟨v1, vs1, d1, ds1, p1, q1, e1, ed1, ep1, h1, hA⟩ := trodAll_cons hA
 obtain ⟨v2, vs2, d2, ds2, p2, q2, e2, ed2, ep2, h2, hA⟩ := trodAll_cons hA
 obtain ⟨v3, vs3, d3, ds3, p3, q3, e3, ed3, ep3, h3, hA⟩ := trodAll_cons hA
 obtain ⟨v4, vs4, d4, ds4, p4, q4, e4, ed4, ep4, h4, hA⟩ := trodAll_cons hA
 obtain ⟨v5, vs5, d5, ds5, p5, q5, e5, ed5, ep5, h5, hA⟩ := trodAll_cons hA
 obtain ⟨z1, z2, z3⟩ := trodAll_nil hA
 subst z1 z2
 subst e5 ed5
 subst e4 ed4
 subst e3 ed3
 subst e2 ed2
 subst e1 ed1
 obtain rfl : args = #[v0, v1, v2, v3, v4, v5] := by cases args; simp_all
 subst ed0
 obtain ⟨r0, u0, k0, rfl, hr0, hc0, hn0, hb0⟩ := accounts_of (hval 0 22 v0 rfl rfl) h0 (fun q hq => by have := List.all_eq_true.1 hz q (DataW.weights_mem_each (j := 0) (d := d0) rfl rfl q hq); simpa using this)
 obtain ⟨r1, hr1, hb1⟩ := raw4_of (hval 1 23 v1 rfl rfl) h1
 obtain ⟨r2, u2, rfl, hr2, hb2⟩ := account_of (hval 2 31 v2 rfl rfl) h2 (fun q hq => by have := List.all_eq_true.1 hz q (DataW.weights_mem_each (j := 2) (d := d2) rfl rfl q hq); simpa using this)
 obtain ⟨r3, rfl⟩ := change_of (hval 3 33 v3 rfl rfl) h3
 obtain ⟨r4, rfl, hr4⟩ := int4_of (hval 4 34 v4 rfl rfl) h4
 obtain ⟨r5, rfl, _, _, hr5⟩ := open_int (k := .i64) (show Tryz.prog.underlying 3 = some (.int .i64) by kernel_rfl) (hval 5 3 v5 rfl rfl) h5
 replace hr5 := i64_wf hr5
 refine calls_law (stateTells_ok (konR_of hlaid (by kernel_rfl) (.tail _ (.head _))) (roW_marks W) hr0 hc0 hn0 hb0 hr1 hb1 hr2 hb2 hr4 hr5) fun W' k1 k2 k3 => ⟨_, rfl, ?_⟩
 refine law_post (tb := 4) kids full (by rw [Tryz.params3]; decide +kernel) rfl (by kernel_rfl) (by kernel_rfl) hW' ?_ k1 k2 k3
 obtain ⟨rfl, rfl⟩ := trodVars_none hV
 rfl
theorem stateTells_row : Rows.StateTellsSaid :=
 OpenClaim.holds_of_wide 3 Tryz.f3 rfl rfl rfl rfl rfl rfl rfl ⟨rfl, rfl, rfl, rfl, rfl⟩ rfl rfl rfl rfl rfl (by kernel_rfl) Tryz.func3 (by kernel_rfl)
  (of_decide_eq_true (by kernel_rfl)) (by unfold Func.isWrapper; first | (rw [if_pos (by decide +kernel)]; kernel_rfl) | (rw [if_neg (by decide +kernel)]; exact ⟨rfl, rfl⟩))
  (fun os started H enc _ => stateTells_lifted os started H enc)
theorem stateTells_holds : Rows.StateTellsCardSaid :=
 Claim7.holds_tied_plain_at .later [] [.data, .data, .pinned] true (true, "ce46b5c2aa48bc9eed91f1202f61168fe3df0b256c3e1bbd288cbf497f4fa1a8") false stateTells_row (fun _ h => by cases h) (by kernel_rfl) (fun _ h => by cases h) stateTells_row_tie rfl ⟨rfl, rfl⟩ (by kernel_rfl) rfl
  (fun f fn hf hfn => by
   obtain rfl : f = 3 := Option.some.inj ((show Tryz.prog.funcNamed "railhead/railheadlaw08.StateTells" = some 3 by kernel_rfl).symm.trans hf) |>.symm
   obtain rfl : fn = Tryz.f3 := (Option.some.inj (Tryz.func3.symm.trans hfn)).symm
   exact ⟨by kernel_rfl, fun j t ht => by
    rw [Tryz.params3] at ht
    have hm : t ∈ [22, 23, 31, 33, 34, 3] := by simpa using Array.mem_of_getElem? ht
    have hall : ([22, 23, 31, 33, 34, 3].all fun u => !Tryz.prog.wantsStandIn u) = true := by kernel_rfl
    exact (show Tryz.prog.wantsStandIn t = false by simpa using List.all_eq_true.1 hall t hm)⟩)
  (by kernel_rfl)
#print axioms stateTells_holds
end Go.Proofs.YtpcjmmdgopihcaaGreatDoor
