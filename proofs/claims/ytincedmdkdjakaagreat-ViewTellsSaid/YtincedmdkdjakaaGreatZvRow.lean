/- Views may be, are read, written to and merged as the document says. -/
import Derived.Test.YtincedmdkdjakaaGreatZvAs
import Derived.Test.YtincedmdkdjakaaGreatZvAu
set_option linter.unusedSimpArgs false
set_option linter.unusedVariables false
namespace Go.Proofs.YtincedmdkdjakaaGreat
open Go Go.Ev Go.Proofs Go.ChangeShapes Go.WideShapes Go.ChangeAt Go.RowKit
set_option maxRecDepth 100000
set_option maxHeartbeats 4000000
theorem viewTells_lifted (os : Os) (started : os.Started) (H : Type) (enc : TypeId × Value → H) :
    ReturnsInHanded {} Tryz.checked os 7 .any (Rows.viewTellsSpec.pre6 enc Tryz.prog Tryz.f7 Rows.viewTellsRow.domain false) (Rows.viewTellsSpec.post enc Tryz.prog Tryz.f7 false true false false) := by
  refine returnsInHanded_of_change_sized (C := Tryz.checked) own started (by kernel_rfl) Tryz.func7
    (ChangeSpec.witness6 (enc := enc) (C := Tryz.checked) false ⟨#[], #[.slice none 0 0, .agg #[.slice none 0 0, .slice none 0 0], .slice none 0 0, .agg #[.int .u8 0, .int .u8 0, .int .u8 0, .int .u8 0, .int .u8 0, .int .u8 0, .int .u8 0, .int .u8 0, .int .u8 0, .int .u8 0, .int .u8 0, .int .u8 0, .int .u8 0, .int .u8 0, .int .u8 0, .int .u8 0, .int .u8 0, .int .u8 0, .int .u8 0, .int .u8 0, .bool false, .int .u64 0, .int .u64 0, .int .u64 0, .int .u64 0, .int .u64 0, .int .u64 0, .int .u64 0, .int .u64 0, .int .i64 0, .string ⟨#[]⟩, .int .u64 0, .int .u64 0, .int .u64 0, .int .u64 0], .agg #[.int .u8 0, .int .u8 0, .int .u8 0, .int .u8 0, .int .u8 0, .int .u8 0, .int .u8 0, .int .u8 0, .int .u8 0, .int .u8 0, .int .u8 0, .int .u8 0, .int .u8 0, .int .u8 0, .int .u8 0, .int .u8 0, .int .u8 0, .int .u8 0, .int .u8 0, .int .u8 0, .int .u64 0, .int .u64 0, .int .u64 0, .int .u64 0, .int .i64 0, .string ⟨#[]⟩, .slice none 0 0], .agg #[.int .i64 0, .int .i64 0], .agg #[.int .u64 0, .int .u64 0, .int .u64 0, .int .u64 0], .slice none 0 0, .int .i64 0], []⟩ 8 (by kernel_rfl) (by kernel_rfl) (by kernel_rfl) (by kernel_rfl)) ?_
  intro W base args ds gs before hval0 hW _ hz _
  have hval : ∀ (j : Nat) t v, Tryz.f7.params[j]? = some t → args[j]? = some v → Value.okWide Tryz.prog W .any base t v := hval0
  have hW' := hW
  obtain ⟨p, q, hA0, hV, rfl, hfz, hnd⟩ := hW
  have hA : DataW.TrodAll enc Tryz.prog W 0 (fun _ => true) true Tryz.f7.params.toList args.toList ds p := hA0
  rw [Tryz.params7] at hA hval
  obtain ⟨v0, vs0, d0, ds0, p0, q0, e0, ed0, ep0, h0, hA⟩ := trodAll_cons hA
  obtain ⟨v1, vs1, d1, ds1, p1, q1, e1, ed1, ep1, h1, hA⟩ := trodAll_cons hA
  obtain ⟨v2, vs2, d2, ds2, p2, q2, e2, ed2, ep2, h2, hA⟩ := trodAll_cons hA
  obtain ⟨v3, vs3, d3, ds3, p3, q3, e3, ed3, ep3, h3, hA⟩ := trodAll_cons hA
  obtain ⟨v4, vs4, d4, ds4, p4, q4, e4, ed4, ep4, h4, hA⟩ := trodAll_cons hA
  obtain ⟨v5, vs5, d5, ds5, p5, q5, e5, ed5, ep5, h5, hA⟩ := trodAll_cons hA
  obtain ⟨v6, vs6, d6, ds6, p6, q6, e6, ed6, ep6, h6, hA⟩ := trodAll_cons hA
  obtain ⟨v7, vs7, d7, ds7, p7, q7, e7, ed7, ep7, h7, hA⟩ := trodAll_cons hA
  obtain ⟨v8, vs8, d8, ds8, p8, q8, e8, ed8, ep8, h8, hA⟩ := trodAll_cons hA
  obtain ⟨z1, z2, z3⟩ := trodAll_nil hA
  subst z1 z2
  subst e8 ed8
  subst e7 ed7
  subst e6 ed6
  subst e5 ed5
  subst e4 ed4
  subst e3 ed3
  subst e2 ed2
  subst e1 ed1
  obtain rfl : args = #[v0, v1, v2, v3, v4, v5, v6, v7, v8] := by cases args; simp_all
  obtain ⟨r0, hr0, hb0⟩ := raw4_of (hval 0 22 v0 rfl rfl) h0
  obtain ⟨u1, u1', r1, r1', rfl, hr1, hr1', hb1, hb1'⟩ := rsets_of (hval 1 24 v1 rfl rfl) h1
  obtain ⟨r2, hr2, hb2⟩ := raw4_of (hval 2 22 v2 rfl rfl) h2
  obtain ⟨r3, rfl⟩ := cell_of (hval 3 74 v3 rfl rfl) h3
  obtain ⟨r4, r4', rfl, hr4, hb4⟩ := account_of (hval 4 53 v4 rfl rfl) h4 (fun q hq => by have := List.all_eq_true.1 hz q (DataW.weights_mem_each (j := 4) (by rw [Tryz.params7]; rfl) (by rw [ed0]; rfl) q hq); simpa using this)
  obtain ⟨r5, rfl, hr5⟩ := int2_of (hval 5 25 v5 rfl rfl) h5
  obtain ⟨r6, rfl⟩ := word_of (hval 6 39 v6 rfl rfl) h6
  obtain ⟨r7, hr7, hb7⟩ := raw4_of (hval 7 22 v7 rfl rfl) h7
  obtain ⟨r8, rfl, _, _, hr8⟩ := open_int (k := .i64) (show Tryz.prog.underlying 3 = some (.int .i64) by kernel_rfl) (hval 8 3 v8 rfl rfl) h8
  replace hr8 := i64_wf hr8
  refine calls_law (viewTells_ok (roW_marks W) hr0 hr1 hr1' hr2 hr7 hr4 hb4 hb0 hb1 hb1' hb2 hb7 hr5.1 hr5.2 hr8) fun W' k1 k2 k3 => ⟨_, rfl, ?_⟩
  refine law_post (tb := 4) kids full (by rw [Tryz.params7]; decide +kernel) rfl (by kernel_rfl) (by kernel_rfl) hW' ?_ k1 k2 k3
  obtain ⟨rfl, rfl⟩ := trodVars_none hV
  subst ed0
  rfl
theorem viewTells_holds : Rows.ViewTellsSaid :=
  OpenClaim.holds_of_wide 7 Tryz.f7 rfl rfl rfl rfl rfl rfl rfl ⟨rfl, rfl, rfl, rfl, rfl⟩ rfl rfl rfl rfl rfl (by kernel_rfl) Tryz.func7 (by kernel_rfl)
    (of_decide_eq_true (by kernel_rfl)) (by unfold Func.isWrapper; first | (rw [if_pos (by decide +kernel)]; kernel_rfl) | (rw [if_neg (by decide +kernel)]; exact ⟨rfl, rfl⟩))
    (fun os started H enc _ => viewTells_lifted os started H enc)
#print axioms viewTells_holds
end Go.Proofs.YtincedmdkdjakaaGreat
