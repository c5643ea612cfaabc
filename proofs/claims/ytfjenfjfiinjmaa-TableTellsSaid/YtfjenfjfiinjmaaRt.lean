/- TableTells returns true whatever the slots, the raw lists, the flag, the words and the number are. Its conditions: none. -/
import Derived.Test.YtfjenfjfiinjmaaLt
set_option linter.unusedSimpArgs false
set_option linter.unusedVariables false
namespace Go.Proofs.Ytfjenfjfiinjmaa
open Go Go.Ev Go.Proofs Go.ChangeShapes Go.WideShapes Go.ChangeAt Go.RowKit
set_option maxRecDepth 100000
set_option maxHeartbeats 4000000
theorem tableTells_lifted (os : Os) (started : os.Started) (H : Type) (enc : TypeId × Value → H) :
    ReturnsInHanded {} Try.checked os 3 .any (Rows.tableTellsSpec.pre6 enc Try.prog Try.f3 Rows.tableTellsRow.domain false) (Rows.tableTellsSpec.post enc Try.prog Try.f3 false true false false) := by
  refine returnsInHanded_of_change (C := Try.checked) own started (by kernel_rfl) Try.func3
    (ChangeSpec.witness6 (enc := enc) (C := Try.checked) false ⟨#[], #[.slice none 0 0, .slice none 0 0, .slice none 0 0, .bool false, .agg #[.int .u64 0, .int .u64 0, .int .u64 0, .int .u64 0], .agg #[.int .u64 0, .int .u64 0, .int .u64 0, .int .u64 0], .int .i64 0], []⟩ 8 (by kernel_rfl) (by kernel_rfl) (by kernel_rfl) (by kernel_rfl)) ?_
  intro W base args ds gs before hval0 hW _ _
  have hval : ∀ (j : Nat) t v, Try.f3.params[j]? = some t → args[j]? = some v → Value.okWide Try.prog W .any base t v := hval0
  have hW' := hW
  obtain ⟨p, q, hA0, hV, rfl, hfz, hnd⟩ := hW
  have hA : DataW.TrodAll enc Try.prog W 0 (fun _ => true) true Try.f3.params.toList args.toList ds p := hA0
  rw [Try.params3] at hA hval
  obtain ⟨v0, vs0, d0, ds0, p0, q0, e0, ed0, ep0, h0, hA⟩ := trodAll_cons hA
  obtain ⟨v1, vs1, d1, ds1, p1, q1, e1, ed1, ep1, h1, hA⟩ := trodAll_cons hA
  obtain ⟨v2, vs2, d2, ds2, p2, q2, e2, ed2, ep2, h2, hA⟩ := trodAll_cons hA
  obtain ⟨v3, vs3, d3, ds3, p3, q3, e3, ed3, ep3, h3, hA⟩ := trodAll_cons hA
  obtain ⟨v4, vs4, d4, ds4, p4, q4, e4, ed4, ep4, h4, hA⟩ := trodAll_cons hA
  obtain ⟨v5, vs5, d5, ds5, p5, q5, e5, ed5, ep5, h5, hA⟩ := trodAll_cons hA
  obtain ⟨v6, vs6, d6, ds6, p6, q6, e6, ed6, ep6, h6, hA⟩ := trodAll_cons hA
  obtain ⟨z1, z2, z3⟩ := trodAll_nil hA
  subst z1 z2
  subst e6 ed6
  subst e5 ed5
  subst e4 ed4
  subst e3 ed3
  subst e2 ed2
  subst e1 ed1
  obtain rfl : args = #[v0, v1, v2, v3, v4, v5, v6] := by cases args; simp_all
  obtain ⟨r0, q0s, n0s, c0s, rfl, hr0, hb0⟩ := slots_of (hval 0 22 v0 rfl rfl) h0
  obtain ⟨r1, hr1, hb1⟩ := raw_of (hval 1 23 v1 rfl rfl) h1
  obtain ⟨r2, hr2, hb2⟩ := raw_of (hval 2 23 v2 rfl rfl) h2
  obtain ⟨r3, rfl⟩ := okWide_bool (show Try.prog.underlying 4 = some .bool by kernel_rfl) (hval 3 4 v3 rfl rfl)
  obtain ⟨r4, rfl⟩ := word_of (hval 4 26 v4 rfl rfl) h4
  obtain ⟨r5, rfl⟩ := word_of (hval 5 26 v5 rfl rfl) h5
  obtain ⟨r6, rfl, _, _, hr6⟩ := open_int (k := .i64) (show Try.prog.underlying 3 = some (.int .i64) by kernel_rfl) (hval 6 3 v6 rfl rfl) h6
  replace hr6 := i64_wf hr6
  refine calls_law (tableTells_ok (roW_marks W) hr0 hr1 hr2 hr6 hb0 hb1 hb2) fun W' k1 k2 k3 => ⟨_, rfl, ?_⟩
  refine law_post (tb := 4) kids full (by rw [Try.params3]; decide +kernel) rfl (by kernel_rfl) (by kernel_rfl) hW' ?_ k1 k2 k3
  obtain ⟨rfl, rfl⟩ := trodVars_none hV
  subst ed0
  rfl
theorem tableTells_holds : Rows.TableTellsSaid :=
  OpenClaim.holds_of_wide 3 Try.f3 rfl rfl rfl rfl rfl rfl rfl ⟨rfl, rfl, rfl, rfl, rfl⟩ rfl rfl rfl rfl rfl (by kernel_rfl) Try.func3 (by kernel_rfl)
    (of_decide_eq_true (by kernel_rfl)) (by unfold Func.isWrapper; first | (rw [if_pos (by decide +kernel)]; kernel_rfl) | (rw [if_neg (by decide +kernel)]; exact ⟨rfl, rfl⟩))
    (fun os started H enc _ => tableTells_lifted os started H enc)
#print axioms tableTells_holds
end Go.Proofs.Ytfjenfjfiinjmaa
