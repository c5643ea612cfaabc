/- Texts of this claim, merged by program: Um Un Uo Up EvN. -/
import Derived.Test.YtincedmdkdjakaaGreatZvAn
import Derived.Test.YtincedmdkdjakaaGreatZvAh
set_option linter.unusedSimpArgs false
set_option linter.unusedVariables false
namespace Go.Ev
theorem Ce.cells_inj {x y : Ce} (h : x.cells = y.cells) : x = y := by
  have h1 := congrArg (List.take 25) h
  rw [x.take25, y.take25] at h1
  have h2 := congrArg (fun l => List.take 4 (List.drop 25 l)) h
  have h3 := congrArg (fun l => List.take 1 (List.drop 29 l)) h
  have h4 := congrArg (fun l => List.take 1 (List.drop 30 l)) h
  have h5 := congrArg (fun l => List.take 4 (List.drop 31 l)) h
  rw [x.bal25, y.bal25] at h2
  rw [x.non29, y.non29] at h3
  rw [x.cod30, y.cod30] at h4
  rw [x.val31, y.val31] at h5
  simp only [List.cons.injEq, Value.int.injEq, Value.string.injEq, true_and, and_true] at h3 h4
  exact Ce.ext (Ky.cells_inj h1) (W.cells_inj h2) h3 h4 (W.cells_inj h5)
theorem Ce.v_inj {x y : Ce} (h : x.v = y.v) : x = y := by
  unfold Ce.v at h
  simp only [Value.agg.injEq] at h
  exact Ce.cells_inj (by simpa using congrArg Array.toList h)
noncomputable def ceOf (v : Value) : Option Ce := @dite (Option Ce) (∃ x : Ce, x.v = v) (Classical.propDecidable _) (fun h => some (Classical.choose h)) (fun _ => none)
theorem ceOf_v (x : Ce) : ceOf x.v = some x := by
  unfold ceOf
  rw [dif_pos ⟨x, rfl⟩]
  exact congrArg some (Ce.v_inj (Classical.choose_spec (⟨x, rfl⟩ : ∃ y : Ce, y.v = x.v)))
theorem ceOf_some {v : Value} {x : Ce} (h : ceOf v = some x) : v = x.v := by
  unfold ceOf at h
  split at h
  · rename_i hx
    rw [← Option.some.inj h]
    exact (Classical.choose_spec hx).symm
  · cases h
noncomputable def mayCG : List Value → Option Value
  | [x] => (ceOf x).bind fun a => some (.bool (mayCB a))
  | _ => none
noncomputable def ordCG : List Value → Option Value
  | [x, y] => (ceOf x).bind fun a => (ceOf y).bind fun b => some (.int .i64 (ordY a.key b.key))
  | _ => none
attribute [push_cast] mayCG ordCG ceOf_v
theorem mayB_w (R W' : List Ky) (k : Ky) : mayB R W' k true = decide (k ∈ W') := by unfold mayB; simp
theorem mayB_r (v : Vi) (k : Ky) : mayB v.reads v.writes k false = pB (v.rd k) := by
  unfold mayB Vi.rd
  rw [Bool.not_false, Bool.true_and, Bool.eq_iff_iff, pB_iff, Bool.or_eq_true, decide_eq_true_eq, decide_eq_true_eq]
structure Vi.Fit (x : Vi) : Prop where
  b : x.base.length ≤ 1000000000
  sl : ∀ y ∈ x.base, y.slots.length ≤ 2199023255551
  r : x.reads.length ≤ 1000000000
  w : x.writes.length ≤ 1000000000
  c : x.cells.length ≤ 1000000000
end Go.Ev
namespace Go.Proofs.YtincedmdkdjakaaGreat
open Go Go.Ev Go.Proofs
set_option maxRecDepth 100000
set_option maxHeartbeats 4000000
theorem vmayG_ok (args : List Value) (v : Value) (h : mayCG args = some v) : CallsV Tryz.prog 65 args [] (Ret0 v) := by
  unfold mayCG at h
  split at h
  case h_2 => cases h
  rename_i x
  cases hx : ceOf x with
  | none => simp [hx] at h
  | some a => simp only [hx, Option.bind_some, Option.some.injEq] at h; rw [ceOf_some hx, ← h]; exact vmay_ok a
theorem rmayG_ok (args : List Value) (v : Value) (h : mayCG args = some v) : CallsV Tryz.prog 69 args [] (Ret0 v) := by
  unfold mayCG at h
  split at h
  case h_2 => cases h
  rename_i x
  cases hx : ceOf x with
  | none => simp [hx] at h
  | some a => simp only [hx, Option.bind_some, Option.some.injEq] at h; rw [ceOf_some hx, ← h]; exact rcmay_ok a
theorem vorder_ok (x y : Ce) : CallsV Tryz.prog 67 [x.v, y.v] [] (Ret0 (.int .i64 (ordY x.key y.key))) := by
  refine callsO gU2_ok Tryz.mix (fun i => if i = 1 then [(0, 9)] else Tryz.pl67 i) Tryz.func67 rfl Tryz.ntmps67 Tryz.results67 rfl (by first | rfl | assumption) (Nat.le_of_ble_eq_true rfl) (by kernel_rfl) ?_
  simp only [push_cast, seval, reduceCtorEq]
  intro b2 b3 hb3
  refine regO gU2_ok ?_
  simp only [push_cast, seval, reduceCtorEq, hb3]
theorem vorderG_ok (args : List Value) (v : Value) (h : ordCG args = some v) : CallsV Tryz.prog 67 args [] (Ret0 v) := by
  unfold ordCG at h
  split at h
  case h_2 => cases h
  rename_i x y
  cases hx : ceOf x with
  | none => simp [hx] at h
  | some a =>
    cases hy : ceOf y with
    | none => simp [hx, hy] at h
    | some b => simp only [hx, hy, Option.bind_some, Option.some.injEq] at h; rw [ceOf_some hx, ceOf_some hy, ← h]; exact vorder_ok a b
noncomputable def gU3 : Gam := (addG 67 ordCG (addG 69 mayCG (addG 65 mayCG gU2)))
attribute [push_cast] gU3
theorem gU3_ok : GamOk Tryz.prog gU3 := (addG_ok vorderG_ok (addG_ok rmayG_ok (addG_ok vmayG_ok gU2_ok)))
def plVR : Plans := fun i => if i = 4 then [] else Tryz.pl29 i
def plVR2 : Plans := fun i => if i = 4 then [] else Tryz.pl30 i
attribute [push_cast] plVR plVR2
theorem vright_ok {M : Hp} {x : Vi} {v : Value} (hv : ViR x v M) (hm : marksOf M = []) (hb : x.Fit) : CallsV Tryz.prog 29 [v] M (Ret0 (.bool (pB (RiV x)))) := by
  obtain ⟨n1, n2, n3, n4, n5⟩ := hb
  obtain ⟨vb, vr, vw, vc, rfl, h1, h2, h3, h4⟩ := hv
  have hse : SeR x.reads x.writes (.agg #[vr, vw]) M := ⟨vr, vw, rfl, h2, h3⟩
  obtain ⟨pb, kb, rfl⟩ := h1.slice
  obtain ⟨pr, kr, rfl⟩ := LiR.slice h2
  obtain ⟨pw, kw, rfl⟩ := LiR.slice h3
  obtain ⟨pc, kc, rfl, hla⟩ := LiR.openE h4
  refine callsO gU3_ok Tryz.mix plVR Tryz.func29 rfl Tryz.ntmps29 Tryz.results29 rfl (by first | rfl | assumption) (Nat.le_of_ble_eq_true rfl) (by kernel_rfl) ?_
  simp only [push_cast, seval, reduceCtorEq]
  intro b1 hb1
  refine loopO gU3_ok (pl := plVR) Tryz.mix (X := Nat)
    (fun i => ([(1, .pointer (some ⟨b1, 0, none⟩)), (6, .slice pc x.cells.length kc), (7, .int .i64 x.cells.length), (8, .int .i64 i)], ⟨b1, 0, .cel 33, [.slice pb x.base.length kb, .slice pr x.reads.length kr, .slice pw x.writes.length kw, .slice pc x.cells.length kc]⟩ :: M))
    (fun i => i ≤ x.cells.length ∧ ∀ j, j < i → okC x j) (fun i => x.cells.length - i) 0 ?_ ?_ (by kernel_rfl) ?_
  · exact ⟨Nat.zero_le _, fun i h => by omega⟩
  · simp only [push_cast, seval, reduceCtorEq, hm]
  · rintro i ⟨hi, ho⟩
    dsimp only at hi ho ⊢
    rcases Nat.lt_or_ge i x.cells.length with hlt | hge
    · obtain ⟨c, hc⟩ : ∃ c, x.cells[i]? = some c := ⟨x.cells[i], List.getElem?_eq_getElem hlt⟩
      rcases hla with hl0 | ⟨b, f', d, kd, cs, rfl, hfe, hat⟩
      · rw [hl0] at hlt; simp at hlt
      obtain ⟨a1, a2⟩ := hat i c hc
      have i1 : (i : Int) < (x.cells.length : Int) := by omega
      have n3' := (fresh_findS hb1 hfe).2
      have step : okC x i → ∀ j, j < i + 1 → okC x j := fun h j hj => by
        rcases Nat.lt_or_ge j i with h5 | h5
        · exact ho j h5
        · obtain rfl : j = i := by omega
          exact h
      simp only [push_cast, seval, reduceCtorEq, i1, hlt, hfe, n3', a1, a2]
      intro b4 hb4
      have n4' := (fresh_findS hb4.2.2 hfe).2
      refine drawO gU3_ok Tryz.mix (Tryz.pl29 4) (by kernel_rfl) ?_
      obtain ⟨my, hmy⟩ : ∃ q, mayCB c = q := ⟨_, rfl⟩
      cases my
      · have e : pB (RiV x) = false := pB_f (okC_bad (i := i) fun h => by
          have := (h c hc).1
          unfold mayCB at hmy
          rw [pB_t this] at hmy; cases hmy)
        rw [e]
        simp only [push_cast, seval, reduceCtorEq, i1, hlt, hfe, n3', n4', a1, a2, hmy, hb4]
      have hmx : mayC c := pB_iff.1 hmy
      simp only [push_cast, seval, reduceCtorEq, i1, hlt, hfe, n3', n4', a1, a2, hmy, hb4]
      refine takeR [_, _] (amay_R hse (by omega) (by omega)) ⟨hb4.2.2, hb1, trivial⟩ ?_
      rw [mayB_w]
      by_cases hw : c.key ∈ x.writes
      case neg =>
        have e : pB (RiV x) = false := pB_f (okC_bad (i := i) fun h => hw (h c hc).2.1)
        rw [e]
        simp only [push_cast, seval, reduceCtorEq, i1, hlt, hfe, n3', n4', a1, a2, hmy, hb4, decide_eq_false hw]
      rcases Nat.eq_zero_or_pos i with rfl | hpos
      · simp only [push_cast, seval, reduceCtorEq, i1, hlt, hfe, n3', n4', a1, a2, hmy, hb4, decide_eq_true hw, Int.lt_irrefl, Nat.lt_irrefl, wrap_i64' (show -9223372036854775808 ≤ (0 : Int) + 1 ∧ (0 : Int) + 1 ≤ 9223372036854775807 by omega)]
        exact ⟨1, ⟨hlt, step fun y hy => by rw [hc] at hy; cases hy; exact ⟨hmx, hw, fun _ h => absurd h (Nat.lt_irrefl _)⟩⟩, by omega, by first | rfl | exact ⟨rfl, subH_cons hb4⟩ | exact subH_cons hb4⟩
      · obtain ⟨k, rfl⟩ : ∃ k, i = k + 1 := ⟨i - 1, by omega⟩
        obtain ⟨y, hy⟩ : ∃ y, x.cells[k]? = some y := ⟨x.cells[k]'(by omega), List.getElem?_eq_getElem (by omega)⟩
        obtain ⟨y1, y2⟩ := hat k y hy
        have p1 : (0 : Int) < (k : Int) + 1 := by omega
        have p2 : (k : Int) + 1 - 1 = (k : Int) := by omega
        have p3 : k < x.cells.length := by omega
        by_cases hco : y.key.lt c.key
        · have ec : ¬ (0 : Int) ≤ ordY y.key c.key := by have := ordY_neg.2 hco; omega
          simp only [push_cast, seval, reduceCtorEq, i1, hlt, hfe, n3', n4', a1, a2, hmy, hb4, decide_eq_true hw, p1, p2, p3, y1, y2, ec, wrap_i64' (show -9223372036854775808 ≤ (k : Int) ∧ (k : Int) ≤ 9223372036854775807 by omega), wrap_i64' (show -9223372036854775808 ≤ (k : Int) + 1 + 1 ∧ (k : Int) + 1 + 1 ≤ 9223372036854775807 by omega)]
          exact ⟨k + 2, ⟨hlt, step fun z hz => by rw [hc] at hz; cases hz; exact ⟨hmx, hw, fun u _ hu => by rw [Nat.add_sub_cancel, hy] at hu; cases hu; exact hco⟩⟩, by omega, by first | rfl | exact ⟨rfl, subH_cons hb4⟩ | exact subH_cons hb4⟩
        · have ec : (0 : Int) ≤ ordY y.key c.key := by have : ¬ ordY y.key c.key < 0 := fun h => hco (ordY_neg.1 h); omega
          have e : pB (RiV x) = false := pB_f (okC_bad (i := k + 1) fun h => hco ((h c hc).2.2 y (Nat.succ_pos _) (by rw [Nat.add_sub_cancel]; exact hy)))
          rw [e]
          simp only [push_cast, seval, reduceCtorEq, i1, hlt, hfe, n3', n4', a1, a2, hmy, hb4, decide_eq_true hw, p1, p2, p3, y1, y2, ec, wrap_i64' (show -9223372036854775808 ≤ (k : Int) ∧ (k : Int) ≤ 9223372036854775807 by omega)]
    · obtain rfl : i = x.cells.length := by omega
      have e : pB (RiV x) = (rightS x.base && (pB (rightKs x.reads) && pB (rightKs x.writes))) := by
        rw [Bool.eq_iff_iff, pB_iff, okC_end ho, Bool.and_eq_true, Bool.and_eq_true, rightS_iff, pB_iff, pB_iff]
      rw [e]
      simp only [push_cast, seval, reduceCtorEq, Nat.lt_irrefl, Int.lt_irrefl]
      refine useP [_] (fun M1 hr1 he1 => sright_ok (StR.rd _ _ _ _ he1.symm h1) hr1.marks (by omega)) ⟨hb1, trivial⟩ ?_
      cases hs : rightS x.base
      · simp only [push_cast, seval, reduceCtorEq, hs, Bool.false_and]
      simp only [push_cast, seval, reduceCtorEq, hs, Bool.true_and]
      refine useP [_] (aRight_R hse (by omega) (by omega)) ⟨hb1, trivial⟩ ?_
      simp only [push_cast, seval, reduceCtorEq]
theorem r11right_ok {M : Hp} {x : Vi} {v : Value} (hv : ViR x v M) (hm : marksOf M = []) (hb : x.Fit) : CallsV Tryz.prog 30 [v] M (Ret0 (.bool (pB (RiV x)))) := by
  obtain ⟨n1, n2, n3, n4, n5⟩ := hb
  obtain ⟨vb, vr, vw, vc, rfl, h1, h2, h3, h4⟩ := hv
  have hse : SeR x.reads x.writes (.agg #[vr, vw]) M := ⟨vr, vw, rfl, h2, h3⟩
  obtain ⟨pb, kb, rfl⟩ := h1.slice
  obtain ⟨pr, kr, rfl⟩ := LiR.slice h2
  obtain ⟨pw, kw, rfl⟩ := LiR.slice h3
  obtain ⟨pc, kc, rfl, hla⟩ := LiR.openE h4
  refine callsO gU3_ok Tryz.mix plVR2 Tryz.func30 rfl Tryz.ntmps30 Tryz.results30 rfl (by first | rfl | assumption) (Nat.le_of_ble_eq_true rfl) (by kernel_rfl) ?_
  simp only [push_cast, seval, reduceCtorEq]
  intro b1 hb1
  refine loopO gU3_ok (pl := plVR2) Tryz.mix (X := Nat)
    (fun i => ([(1, .pointer (some ⟨b1, 0, none⟩)), (3, .int .i64 i)], ⟨b1, 0, .cel 33, [.slice pb x.base.length kb, .slice pr x.reads.length kr, .slice pw x.writes.length kw, .slice pc x.cells.length kc]⟩ :: M))
    (fun i => i ≤ x.cells.length ∧ ∀ j, j < i → okC x j) (fun i => x.cells.length - i) 0 ?_ ?_ (by kernel_rfl) ?_
  · exact ⟨Nat.zero_le _, fun i h => by omega⟩
  · simp only [push_cast, seval, reduceCtorEq, hm]
  · rintro i ⟨hi, ho⟩
    dsimp only at hi ho ⊢
    rcases Nat.lt_or_ge i x.cells.length with hlt | hge
    · obtain ⟨c, hc⟩ : ∃ c, x.cells[i]? = some c := ⟨x.cells[i], List.getElem?_eq_getElem hlt⟩
      rcases hla with hl0 | ⟨b, f', d, kd, cs, rfl, hfe, hat⟩
      · rw [hl0] at hlt; simp at hlt
      obtain ⟨a1, a2⟩ := hat i c hc
      have a3 : d + i * 35 + 25 ≤ cs.length := by omega
      have a4 : List.take 25 (List.drop (d + i * 35) cs) = c.key.cells := by
        have := congrArg (List.take 25) a2
        rw [c.take25, List.take_take] at this
        exact this
      have i1 : (i : Int) < (x.cells.length : Int) := by omega
      have n3' := (fresh_findS hb1 hfe).2
      have step : okC x i → ∀ j, j < i + 1 → okC x j := fun h j hj => by
        rcases Nat.lt_or_ge j i with h5 | h5
        · exact ho j h5
        · obtain rfl : j = i := by omega
          exact h
      simp only [push_cast, seval, reduceCtorEq, i1, hlt, hfe, n3', a1, a2]
      refine drawO gU3_ok Tryz.mix (Tryz.pl30 4) (by kernel_rfl) ?_
      obtain ⟨my, hmy⟩ : ∃ q, mayCB c = q := ⟨_, rfl⟩
      cases my
      · have e : pB (RiV x) = false := pB_f (okC_bad (i := i) fun h => by
          have := (h c hc).1
          unfold mayCB at hmy
          rw [pB_t this] at hmy; cases hmy)
        rw [e]
        simp only [push_cast, seval, reduceCtorEq, i1, hlt, hfe, n3', a1, a2, a3, a4, hmy]
      have hmx : mayC c := pB_iff.1 hmy
      simp only [push_cast, seval, reduceCtorEq, i1, hlt, hfe, n3', a1, a2, a3, a4, hmy]
      refine takeR [_] (rmay_R (w := true) hse (by omega) (by omega)) ⟨hb1, trivial⟩ ?_
      rw [mayB_w]
      by_cases hw : c.key ∈ x.writes
      case neg =>
        have e : pB (RiV x) = false := pB_f (okC_bad (i := i) fun h => hw (h c hc).2.1)
        rw [e]
        simp only [push_cast, seval, reduceCtorEq, i1, hlt, hfe, n3', a1, a2, a3, a4, hmy, decide_eq_false hw]
      rcases Nat.eq_zero_or_pos i with rfl | hpos
      · have i1' : (0 : Int) < (x.cells.length : Int) := by omega
        have z1 := a1
        have z2 := a2
        have z3 := a3
        have z4 := a4
        rw [Nat.zero_mul, Nat.add_zero] at z1 z2 z3 z4
        simp only [push_cast, seval, reduceCtorEq, i1', z1, z2, z3, z4, i1, hlt, hfe, n3', a1, a2, a3, a4, hmy, decide_eq_true hw, Int.lt_irrefl, Nat.lt_irrefl, wrap_i64' (show -9223372036854775808 ≤ (0 : Int) + 1 ∧ (0 : Int) + 1 ≤ 9223372036854775807 by omega)]
        exact ⟨1, ⟨hlt, step fun y hy => by rw [hc] at hy; cases hy; exact ⟨hmx, hw, fun _ h => absurd h (Nat.lt_irrefl _)⟩⟩, by omega, rfl⟩
      · obtain ⟨k, rfl⟩ : ∃ k, i = k + 1 := ⟨i - 1, by omega⟩
        obtain ⟨y, hy⟩ : ∃ y, x.cells[k]? = some y := ⟨x.cells[k]'(by omega), List.getElem?_eq_getElem (by omega)⟩
        obtain ⟨y1, y2⟩ := hat k y hy
        have y3 : d + k * 35 + 25 ≤ cs.length := by omega
        have y4 : List.take 25 (List.drop (d + k * 35) cs) = y.key.cells := by
          have := congrArg (List.take 25) y2
          rw [y.take25, List.take_take] at this
          exact this
        have p1 : (0 : Int) < (k : Int) + 1 := by omega
        have p2 : (k : Int) + 1 - 1 = (k : Int) := by omega
        have p3 : k < x.cells.length := by omega
        have p4 : (0 : Int) ≤ (k : Int) + 1 := by omega
        have p5 : ((k : Int) + 1).toNat = k + 1 := by omega
        have p6 : (k : Int) + 1 < (x.cells.length : Int) := by omega
        by_cases hco : y.key.lt c.key
        · have ec : ¬ (0 : Int) ≤ ordY y.key c.key := by have := ordY_neg.2 hco; omega
          simp only [push_cast, seval, reduceCtorEq, i1, hlt, hfe, n3', a1, a2, a3, a4, hmy, decide_eq_true hw, p1, p2, p3, p4, p5, p6, y1, y2, y3, y4, ec, wrap_i64' (show -9223372036854775808 ≤ (k : Int) ∧ (k : Int) ≤ 9223372036854775807 by omega), wrap_i64' (show -9223372036854775808 ≤ (k : Int) + 1 + 1 ∧ (k : Int) + 1 + 1 ≤ 9223372036854775807 by omega)]
          exact ⟨k + 2, ⟨hlt, step fun z hz => by rw [hc] at hz; cases hz; exact ⟨hmx, hw, fun u _ hu => by rw [Nat.add_sub_cancel, hy] at hu; cases hu; exact hco⟩⟩, by omega, rfl⟩
        · have ec : (0 : Int) ≤ ordY y.key c.key := by have : ¬ ordY y.key c.key < 0 := fun h => hco (ordY_neg.1 h); omega
          have e : pB (RiV x) = false := pB_f (okC_bad (i := k + 1) fun h => hco ((h c hc).2.2 y (Nat.succ_pos _) (by rw [Nat.add_sub_cancel]; exact hy)))
          rw [e]
          simp only [push_cast, seval, reduceCtorEq, i1, hlt, hfe, n3', a1, a2, a3, a4, hmy, decide_eq_true hw, p1, p2, p3, p4, p5, p6, y1, y2, y3, y4, ec, wrap_i64' (show -9223372036854775808 ≤ (k : Int) ∧ (k : Int) ≤ 9223372036854775807 by omega)]
    · obtain rfl : i = x.cells.length := by omega
      have e : pB (RiV x) = (rightS x.base && (pB (rightKs x.reads) && pB (rightKs x.writes))) := by
        rw [Bool.eq_iff_iff, pB_iff, okC_end ho, Bool.and_eq_true, Bool.and_eq_true, rightS_iff, pB_iff, pB_iff]
      rw [e]
      simp only [push_cast, seval, reduceCtorEq, Nat.lt_irrefl, Int.lt_irrefl]
      refine useP [_] (fun M1 hr1 he1 => refRightS_ok (StR.rd _ _ _ _ he1.symm h1) hr1.marks (by omega) (fun y hy => by have := n2 y hy; omega)) ⟨hb1, trivial⟩ ?_
      cases hs : rightS x.base
      · simp only [push_cast, seval, reduceCtorEq, hs, Bool.false_and]
      simp only [push_cast, seval, reduceCtorEq, hs, Bool.true_and]
      refine useP [_] (rRight_R hse (by omega) (by omega)) ⟨hb1, trivial⟩ ?_
      simp only [push_cast, seval, reduceCtorEq]
theorem vright_R {M : Hp} {x : Vi} {v : Value} (hv : ViR x v M) (hb : x.Fit) : ∀ M0, roM M0 → cellsAt M0 = cellsAt M → CallsV Tryz.prog 29 [v] M0 (Ret0 (.bool (pB (RiV x)))) :=
  fun _ hr he => vright_ok (ViR.rd _ _ _ _ he.symm hv) hr.marks hb
theorem r11right_R {M : Hp} {x : Vi} {v : Value} (hv : ViR x v M) (hb : x.Fit) : ∀ M0, roM M0 → cellsAt M0 = cellsAt M → CallsV Tryz.prog 30 [v] M0 (Ret0 (.bool (pB (RiV x)))) :=
  fun _ hr he => r11right_ok (ViR.rd _ _ _ _ he.symm hv) hr.marks hb
end Go.Proofs.YtincedmdkdjakaaGreat
set_option linter.unusedSimpArgs false
set_option linter.unusedVariables false
namespace Go.Ev
theorem cellsAt_appR {N A B : Hp} (h : cellsAt A = cellsAt B) : cellsAt (N ++ A) = cellsAt (N ++ B) := by
  funext b o n
  have hh := congrFun (congrFun (congrFun h b) o) n
  unfold cellsAt at hh ⊢
  rw [findE_app, findE_app]
  cases findE N b with
  | none => exact hh
  | some e => rfl
theorem StR.find {s : List Ac} {v : Value} {X Y : Hp} (h : ∀ b e, findE X b = some e → findE Y b = some e) (hv : StR s v X) : StR s v Y := by
  obtain ⟨L, h1, h2, h3⟩ := hv
  exact ⟨L, h1, h2.find h, fun x hx => (h3 x hx).find h⟩
theorem ViR.find {x : Vi} {v : Value} {X Y : Hp} (h : ∀ b e, findE X b = some e → findE Y b = some e) (hv : ViR x v X) : ViR x v Y := by
  obtain ⟨vb, vr, vw, vc, rfl, h1, h2, h3, h4⟩ := hv
  exact ⟨vb, vr, vw, vc, rfl, h1.find h, LiR.find h h2, LiR.find h h3, LiR.find h h4⟩
def ViO (e : Nat) (x : Vi) : Value → Hp → Hp → Prop := fun v N1 H => ∃ vb vr vw vc, v = .agg #[vb, vr, vw, vc] ∧ StR x.base vb H ∧ KsR x.reads vr H ∧ KsR x.writes vw H ∧ OutG e 35 (x.cells.flatMap Ce.cells) x.cells.length vc N1
theorem ViO.rd (e : Nat) (x : Vi) : RdOwn (ViO e x) := by
  rintro v N1 A B h ⟨vb, vr, vw, vc, rfl, h1, h2, h3, h4⟩
  exact ⟨vb, vr, vw, vc, rfl, StR.rd _ _ _ _ h h1, h2.congr h, h3.congr h, h4⟩
theorem ViO.r {e : Nat} {x : Vi} {v : Value} {N1 H : Hp} (hf : freshN N1 H) (h : ViO e x v N1 H) : ViR x v (N1 ++ H) := by
  obtain ⟨vb, vr, vw, vc, rfl, h1, h2, h3, h4⟩ := h
  exact ⟨vb, vr, vw, vc, rfl, h1.find (find_behind hf), LiR.find (find_behind hf) h2, LiR.find (find_behind hf) h3, h4.liR rfl rfl H⟩
end Go.Ev
namespace Go.Proofs.YtincedmdkdjakaaGreat
open Go Go.Ev Go.Proofs
set_option maxRecDepth 100000
set_option maxHeartbeats 4000000
attribute [-push_cast] evAppend_nil
def plVO : Plans := fun _ => []
attribute [push_cast] plVO
theorem r11own_ok {M : Hp} {x : Vi} {v : Value} (hv : ViR x v M) (hb : x.Fit) : CallsW Tryz.prog 64 [v] M (ViO 74 x) := by
  intro M0 hr he
  have hm := hr.marks
  replace hv := ViR.rd _ _ _ _ he.symm hv
  obtain ⟨n1, n2, n3, n4, n5⟩ := hb
  obtain ⟨vb, vr, vw, vc, rfl, h1, h2, h3, h4⟩ := hv
  obtain ⟨pb, kb, rfl⟩ := h1.slice
  obtain ⟨pr, kr, rfl⟩ := LiR.slice h2
  obtain ⟨pw, kw, rfl⟩ := LiR.slice h3
  obtain ⟨pc, kc, rfl⟩ := LiR.slice h4
  refine callsO gU3_ok Tryz.mix plVO Tryz.func64 rfl Tryz.ntmps64 Tryz.results64 rfl (by first | rfl | assumption) (Nat.le_of_ble_eq_true rfl) (by kernel_rfl) ?_
  simp only [push_cast, seval, reduceCtorEq]
  intro b1 hb1 b2 hb2
  have f1 : fresh b1 M0 := hb1
  have f2 : fresh b2 M0 := hb2.2.2
  have hL0 : freshN [⟨b2, 0, .cel 33, [.slice none 0 0, .slice none 0 0, .slice none 0 0, .slice none 0 0]⟩, ⟨b1, 0, .cel 33, [.slice pb x.base.length kb, .slice pr x.reads.length kr, .slice pw x.writes.length kw, .slice pc x.cells.length kc]⟩] M0 := ⟨f2, f1, trivial⟩
  have fB1 : findE (⟨b2, 0, .cel 33, [.slice none 0 0, .slice none 0 0, .slice none 0 0, .slice none 0 0]⟩ :: ⟨b1, 0, .cel 33, [.slice pb x.base.length kb, .slice pr x.reads.length kr, .slice pw x.writes.length kw, .slice pc x.cells.length kc]⟩ :: M0) b1 = some ⟨b1, 0, .cel 33, [.slice pb x.base.length kb, .slice pr x.reads.length kr, .slice pw x.writes.length kw, .slice pc x.cells.length kc]⟩ := by simp only [push_cast, seval, reduceCtorEq, hb2]
  refine drawS gU3_ok Tryz.mix [(1, .pointer (some ⟨b1, 0, none⟩)), (2, .pointer (some ⟨b2, 0, none⟩))]
      (fun i val => match i with
        | 0 => val 0 = .pointer (some ⟨b1, 1, none⟩)
        | 1 => val 1 = .pointer (some ⟨b1, 1, none⟩)
        | 2 => val 2 = .slice pr x.reads.length kr
        | 3 => ∃ p k, val 3 = .slice p x.reads.length k
        | 4 => val 4 = .pointer (some ⟨b1, 1, none⟩)
        | 5 => val 5 = .pointer (some ⟨b1, 2, none⟩)
        | 6 => val 6 = .slice pw x.writes.length kw
        | 7 => ∃ p k, val 7 = .slice p x.writes.length k
        | 8 => ∃ p k p' k', val 8 = .agg #[.slice p x.reads.length k, .slice p' x.writes.length k'] ∧ val 3 = .slice p x.reads.length k ∧ val 7 = .slice p' x.writes.length k'
        | 9 => ∃ b, val 9 = .pointer (some ⟨b, 0, none⟩)
        | _ => True)
      (fun i val N => match i with
        | 3 => OutG 45 25 (x.reads.flatMap Ky.cells) x.reads.length (val 3) N
        | 7 => OutG 45 25 (x.writes.flatMap Ky.cells) x.writes.length (val 7) N
        | 8 => N = []
        | 9 => ∃ b, val 9 = .pointer (some ⟨b, 0, none⟩) ∧ N = [⟨b, 0, .cel 30, [.slice none 0 0, .slice none 0 0]⟩]
        | 10 => ∃ b p k p' k', val 9 = .pointer (some ⟨b, 0, none⟩) ∧ val 3 = .slice p x.reads.length k ∧ val 7 = .slice p' x.writes.length k' ∧ N = [⟨b, 0, .cel 30, [.slice p x.reads.length k, .slice p' x.writes.length k']⟩]
        | _ => N = []) (fun i => if i = 10 then [9] else []) [3, 7, 10] (by kernel_rfl) (by kernel_rfl) (by kernel_rfl) ?_ (by rfl) (by decide) (by kernel_rfl) ?_ ?_ ?_ ?_ ?_
  · simp only [push_cast, seval, reduceCtorEq, subT]
  · intro i hi hiF
    replace hi : i < 11 := hi
    obtain rfl | rfl | rfl | rfl | rfl | rfl | rfl | rfl | rfl | rfl | rfl : i = 0 ∨ i = 1 ∨ i = 2 ∨ i = 3 ∨ i = 4 ∨ i = 5 ∨ i = 6 ∨ i = 7 ∨ i = 8 ∨ i = 9 ∨ i = 10 := by omega
    all_goals first
      | exact .inl fun _ _ h => h
      | exact absurd (by decide) hiF
      | exact .inr (by kernel_rfl)
  · intro i o ho val val' h1 h2 hV
    have hi := (Array.getElem?_eq_some_iff.1 ho).1
    replace hi : i < 11 := hi
    obtain rfl | rfl | rfl | rfl | rfl | rfl | rfl | rfl | rfl | rfl | rfl : i = 0 ∨ i = 1 ∨ i = 2 ∨ i = 3 ∨ i = 4 ∨ i = 5 ∨ i = 6 ∨ i = 7 ∨ i = 8 ∨ i = 9 ∨ i = 10 := by omega
    · first
        | exact trivial
        | exact hV
        | exact h1.trans hV
        | (rw [h1]; exact hV)
    · first
        | exact trivial
        | exact hV
        | exact h1.trans hV
        | (rw [h1]; exact hV)
    · first
        | exact trivial
        | exact hV
        | exact h1.trans hV
        | (rw [h1]; exact hV)
    · first
        | exact trivial
        | exact hV
        | exact h1.trans hV
        | (rw [h1]; exact hV)
    · first
        | exact trivial
        | exact hV
        | exact h1.trans hV
        | (rw [h1]; exact hV)
    · first
        | exact trivial
        | exact hV
        | exact h1.trans hV
        | (rw [h1]; exact hV)
    · first
        | exact trivial
        | exact hV
        | exact h1.trans hV
        | (rw [h1]; exact hV)
    · first
        | exact trivial
        | exact hV
        | exact h1.trans hV
        | (rw [h1]; exact hV)
    · simp only [List.getElem?_toArray, List.getElem?_cons_zero, List.getElem?_cons_succ, Option.some.injEq] at ho; subst ho
      have h3' := h2 3 (by kernel_rfl)
      have h7' := h2 7 (by kernel_rfl)
      obtain ⟨p, k, p', k', a1, a2, a3⟩ := hV
      exact ⟨p, k, p', k', by rw [h1]; exact a1, by rw [h3']; exact a2, by rw [h7']; exact a3⟩
    · first
        | exact trivial
        | exact hV
        | exact h1.trans hV
        | (rw [h1]; exact hV)
    · first
        | exact trivial
        | exact hV
        | exact h1.trans hV
        | (rw [h1]; exact hV)
  · intro i o ho val val' N h1 h2 hQ
    have hi := (Array.getElem?_eq_some_iff.1 ho).1
    replace hi : i < 11 := hi
    obtain rfl | rfl | rfl | rfl | rfl | rfl | rfl | rfl | rfl | rfl | rfl : i = 0 ∨ i = 1 ∨ i = 2 ∨ i = 3 ∨ i = 4 ∨ i = 5 ∨ i = 6 ∨ i = 7 ∨ i = 8 ∨ i = 9 ∨ i = 10 := by omega
    · first
        | exact trivial
        | exact hQ
        | exact h1.trans hQ
        | (rw [h1]; exact hQ)
    · first
        | exact trivial
        | exact hQ
        | exact h1.trans hQ
        | (rw [h1]; exact hQ)
    · first
        | exact trivial
        | exact hQ
        | exact h1.trans hQ
        | (rw [h1]; exact hQ)
    · first
        | exact trivial
        | exact hQ
        | exact h1.trans hQ
        | (rw [h1]; exact hQ)
    · first
        | exact trivial
        | exact hQ
        | exact h1.trans hQ
        | (rw [h1]; exact hQ)
    · first
        | exact trivial
        | exact hQ
        | exact h1.trans hQ
        | (rw [h1]; exact hQ)
    · first
        | exact trivial
        | exact hQ
        | exact h1.trans hQ
        | (rw [h1]; exact hQ)
    · first
        | exact trivial
        | exact hQ
        | exact h1.trans hQ
        | (rw [h1]; exact hQ)
    · first
        | exact trivial
        | exact hQ
        | exact h1.trans hQ
        | (rw [h1]; exact hQ)
    · first
        | exact trivial
        | exact hQ
        | exact h1.trans hQ
        | (rw [h1]; exact hQ)
    · simp only [List.getElem?_toArray, List.getElem?_cons_zero, List.getElem?_cons_succ, Option.some.injEq] at ho; subst ho
      have h3' := h2 3 (by kernel_rfl)
      have h7' := h2 7 (by kernel_rfl)
      have h9' := h2 9 (by kernel_rfl)
      obtain ⟨b, p, k, p', k', a1, a2, a3, a4⟩ := hQ
      exact ⟨b, p, k, p', k', by rw [h9']; exact a1, by rw [h3']; exact a2, by rw [h7']; exact a3, a4⟩
  · intro i o ho T' Y val mem hT hdep hus hfr hY hmY hapY
    have hi := (Array.getElem?_eq_some_iff.1 ho).1
    replace hi : i < 11 := hi
    have y1 := hY _ _ fB1
    have hM0Y : ∀ b e, findE M0 b = some e → findE Y b = some e := fun b e h => hY b e (find_behind hL0 b e h)
    have t1 : getT T' 1 = some (.pointer (some ⟨b1, 0, none⟩)) := hT.1
    obtain rfl | rfl | rfl | rfl | rfl | rfl | rfl | rfl | rfl | rfl | rfl : i = 0 ∨ i = 1 ∨ i = 2 ∨ i = 3 ∨ i = 4 ∨ i = 5 ∨ i = 6 ∨ i = 7 ∨ i = 8 ∨ i = 9 ∨ i = 10 := by omega
    · simp only [List.getElem?_toArray, List.getElem?_cons_zero, List.getElem?_cons_succ, Option.some.injEq] at ho; subst ho
      simp only [push_cast, seval, reduceCtorEq, List.flatMap_nil, List.flatMap_cons, List.append_nil, List.nil_append, t1]
      exact ⟨[], rfl, trivial, rfl, upd_self _ _ _, rfl⟩
    · simp only [List.getElem?_toArray, List.getElem?_cons_zero, List.getElem?_cons_succ, Option.some.injEq] at ho; subst ho
      obtain ⟨v0, g0⟩ := hdep 0 (by kernel_rfl)
      replace g0 := g0 4 rfl
      rw [show val 0 = _ from v0] at g0
      simp only [push_cast, seval, reduceCtorEq, List.flatMap_nil, List.flatMap_cons, List.append_nil, List.nil_append, g0]
      exact ⟨[], rfl, trivial, rfl, upd_self _ _ _, rfl⟩
    · simp only [List.getElem?_toArray, List.getElem?_cons_zero, List.getElem?_cons_succ, Option.some.injEq] at ho; subst ho
      obtain ⟨v1, g1⟩ := hdep 1 (by kernel_rfl)
      replace g1 := g1 5 rfl
      rw [show val 1 = _ from v1] at g1
      simp only [push_cast, seval, reduceCtorEq, List.flatMap_nil, List.flatMap_cons, List.append_nil, List.nil_append, g1, y1]
      exact ⟨[], rfl, trivial, rfl, upd_self _ _ _, rfl⟩
    · simp only [List.getElem?_toArray, List.getElem?_cons_zero, List.getElem?_cons_succ, Option.some.injEq] at ho; subst ho
      obtain ⟨v2, g2⟩ := hdep 2 (by kernel_rfl)
      replace g2 := g2 6 rfl
      rw [show val 2 = _ from v2] at g2
      simp only [push_cast, seval, reduceCtorEq, List.flatMap_nil, List.flatMap_cons, List.append_nil, List.nil_append, g2]
      refine append_g (P := Tryz.prog) (e := 45) (sz := 25) (N := []) (cs := []) (n := 0) (ys := x.reads.flatMap Ky.cells) (m := x.reads.length) (by_ := 56) (.inl ⟨rfl, rfl, rfl, rfl⟩) ?_ (((h2).find hM0Y).src (P := Tryz.prog) (xt := 28) (q := 25) (ag := true) (by simp only [push_cast, seval, reduceCtorEq])) (flatMap_len (fun y => y.len) _) (kyAll _) ?_ fun u Nu ho2 hf2 => ?_
      · simp only [push_cast, seval, reduceCtorEq]
      · unfold two47; omega
      rw [List.nil_append, Nat.zero_add] at ho2
      obtain ⟨pn, kn, hun⟩ := ho2.slice
      exact ⟨Nu, rfl, ho2.wr.1, ho2.wr.2, ⟨pn, kn, by rw [upd_self]; exact hun⟩, by rw [upd_self]; exact ho2⟩
    · simp only [List.getElem?_toArray, List.getElem?_cons_zero, List.getElem?_cons_succ, Option.some.injEq] at ho; subst ho
      simp only [push_cast, seval, reduceCtorEq, List.flatMap_nil, List.flatMap_cons, List.append_nil, List.nil_append, t1]
      exact ⟨[], rfl, trivial, rfl, upd_self _ _ _, rfl⟩
    · simp only [List.getElem?_toArray, List.getElem?_cons_zero, List.getElem?_cons_succ, Option.some.injEq] at ho; subst ho
      obtain ⟨v4, g4⟩ := hdep 4 (by kernel_rfl)
      replace g4 := g4 8 rfl
      rw [show val 4 = _ from v4] at g4
      simp only [push_cast, seval, reduceCtorEq, List.flatMap_nil, List.flatMap_cons, List.append_nil, List.nil_append, g4]
      exact ⟨[], rfl, trivial, rfl, upd_self _ _ _, rfl⟩
    · simp only [List.getElem?_toArray, List.getElem?_cons_zero, List.getElem?_cons_succ, Option.some.injEq] at ho; subst ho
      obtain ⟨v5, g5⟩ := hdep 5 (by kernel_rfl)
      replace g5 := g5 9 rfl
      rw [show val 5 = _ from v5] at g5
      simp only [push_cast, seval, reduceCtorEq, List.flatMap_nil, List.flatMap_cons, List.append_nil, List.nil_append, g5, y1]
      exact ⟨[], rfl, trivial, rfl, upd_self _ _ _, rfl⟩
    · simp only [List.getElem?_toArray, List.getElem?_cons_zero, List.getElem?_cons_succ, Option.some.injEq] at ho; subst ho
      obtain ⟨v6, g6⟩ := hdep 6 (by kernel_rfl)
      replace g6 := g6 10 rfl
      rw [show val 6 = _ from v6] at g6
      simp only [push_cast, seval, reduceCtorEq, List.flatMap_nil, List.flatMap_cons, List.append_nil, List.nil_append, g6]
      refine append_g (P := Tryz.prog) (e := 45) (sz := 25) (N := []) (cs := []) (n := 0) (ys := x.writes.flatMap Ky.cells) (m := x.writes.length) (by_ := 56) (.inl ⟨rfl, rfl, rfl, rfl⟩) ?_ (((h3).find hM0Y).src (P := Tryz.prog) (xt := 28) (q := 25) (ag := true) (by simp only [push_cast, seval, reduceCtorEq])) (flatMap_len (fun y => y.len) _) (kyAll _) ?_ fun u Nu ho2 hf2 => ?_
      · simp only [push_cast, seval, reduceCtorEq]
      · unfold two47; omega
      rw [List.nil_append, Nat.zero_add] at ho2
      obtain ⟨pn, kn, hun⟩ := ho2.slice
      exact ⟨Nu, rfl, ho2.wr.1, ho2.wr.2, ⟨pn, kn, by rw [upd_self]; exact hun⟩, by rw [upd_self]; exact ho2⟩
    · simp only [List.getElem?_toArray, List.getElem?_cons_zero, List.getElem?_cons_succ, Option.some.injEq] at ho; subst ho
      obtain ⟨v3, g3⟩ := hdep 3 (by kernel_rfl)
      replace g3 := g3 7 rfl
      obtain ⟨v7, g7⟩ := hdep 7 (by kernel_rfl)
      replace g7 := g7 11 rfl
      obtain ⟨p3, k3, v3⟩ := v3
      obtain ⟨p7, k7, v7⟩ := v7
      have v3 : val 3 = _ := v3
      have v7 : val 7 = _ := v7
      rw [v3] at g3
      rw [v7] at g7
      simp only [push_cast, seval, reduceCtorEq, List.flatMap_nil, List.flatMap_cons, List.append_nil, List.nil_append, g3, g7]
      exact ⟨[], rfl, trivial, rfl, ⟨p3, k3, p7, k7, upd_self _ _ _, by simp [upd, v3], by simp [upd, v7]⟩, rfl⟩
    · simp only [List.getElem?_toArray, List.getElem?_cons_zero, List.getElem?_cons_succ, Option.some.injEq] at ho; subst ho
      simp only [push_cast, seval, reduceCtorEq, List.flatMap_nil, List.flatMap_cons, List.append_nil, List.nil_append]
      intro b hf
      exact ⟨[_], rfl, ⟨trivial, trivial⟩, rfl, ⟨b, upd_self _ _ _⟩, b, upd_self _ _ _, rfl⟩
    · simp only [List.getElem?_toArray, List.getElem?_cons_zero, List.getElem?_cons_succ, Option.some.injEq] at ho; subst ho
      obtain ⟨v8, g8⟩ := hdep 8 (by kernel_rfl)
      replace g8 := g8 12 rfl
      obtain ⟨v9, g9⟩ := hdep 9 (by kernel_rfl)
      replace g9 := g9 3 rfl
      obtain ⟨p3, k3, p7, k7, v8, v3, v7⟩ := v8
      have v8 : val 8 = _ := v8
      rw [v8] at g8
      obtain ⟨b9, v9, hN⟩ := hus 9 (List.mem_singleton.2 rfl)
      have v9 : val 9 = _ := v9
      rw [v9] at g9
      simp only [push_cast, seval, reduceCtorEq, List.flatMap_nil, List.flatMap_cons, List.append_nil, List.nil_append, g8, g9, hN, List.cons_append]
      refine ⟨[_], rfl, ⟨trivial, trivial⟩, rfl, b9, p3, k3, p7, k7, by simp [upd, v9], by simp [upd, v3], by simp [upd, v7], rfl⟩
  · intro val mem hV hQ hap hwr
    obtain ⟨b3, p, k, p', k', v9, v3, v7, hN⟩ := hQ 10 (by decide)
    have o3 : OutG 45 25 (x.reads.flatMap Ky.cells) x.reads.length (val 3) (mem 3) := hQ 3 (by decide)
    have o7 : OutG 45 25 (x.writes.flatMap Ky.cells) x.writes.length (val 7) (mem 7) := hQ 7 (by decide)
    have v9 : val 9 = _ := v9
    have v3 : val 3 = _ := v3
    have v7 : val 7 = _ := v7
    rw [v3] at o3
    rw [v7] at o7
    have hMM : List.flatMap mem [3, 7, 10] ++ (⟨b2, 0, .cel 33, [.slice none 0 0, .slice none 0 0, .slice none 0 0, .slice none 0 0]⟩ :: ⟨b1, 0, .cel 33, [.slice pb x.base.length kb, .slice pr x.reads.length kr, .slice pw x.writes.length kw, .slice pc x.cells.length kc]⟩ :: M0) = mem 3 ++ (mem 7 ++ (⟨b3, 0, .cel 30, [.slice p x.reads.length k, .slice p' x.writes.length k']⟩ :: ⟨b2, 0, .cel 33, [.slice none 0 0, .slice none 0 0, .slice none 0 0, .slice none 0 0]⟩ :: ⟨b1, 0, .cel 33, [.slice pb x.base.length kb, .slice pr x.reads.length kr, .slice pw x.writes.length kw, .slice pc x.cells.length kc]⟩ :: M0)) := by
      simp only [List.flatMap_cons, List.flatMap_nil, List.append_nil, hN, List.append_assoc, List.cons_append, List.nil_append]
    rw [hMM] at hap ⊢
    have a3 := freshN_apart hap o3.wr.1
    have hap' := (List.pairwise_append.1 hap).2.1
    have a7 := freshN_apart hap' o7.wr.1
    have hap2 := (List.pairwise_append.1 hap').2.1
    have a10 := freshN_apart (A := [⟨b3, 0, .cel 30, [.slice p x.reads.length k, .slice p' x.writes.length k']⟩]) hap2 ⟨trivial, trivial⟩
    have hb3 := a10.1
    have a3' := freshN_mono a3
    have c7 := freshN_mono (A := [_, _, _]) a7
    have c3 := freshN_mono (A := [_, _, _]) a3'.2
    have hw := allWr_app o3.wr.1 o7.wr.1
    have hmm : marksOf (mem 3 ++ mem 7) = [] := by rw [marks_append, o3.wr.2, o7.wr.2]; rfl
    have hg1 : Gr M0 (M0 ++ (mem 3 ++ mem 7)) := ⟨hm, _, rfl, hw, hmm⟩
    have fN : freshN (mem 3 ++ mem 7) M0 := freshN_appL.2 ⟨c3.2, c7.2⟩
    have q7 : LiR Ky.cells 25 (M0 ++ (mem 3 ++ mem 7)) x.writes (.slice p' x.writes.length k') := by
      have h0 := o7.liR (l := x.writes) (c := Ky.cells) rfl rfl []
      rw [List.append_nil] at h0
      have h := LiR.find (find_behind a3'.1) h0
      exact LiR.congr (cellsAt_swap fN) (LiR.find (Y := mem 3 ++ mem 7 ++ M0) (fun b e hb => find_left hb) h)
    have q3 : LiR Ky.cells 25 (M0 ++ (mem 3 ++ mem 7)) x.reads (.slice p x.reads.length k) := LiR.congr (cellsAt_swap fN) (LiR.find (fun b e hb => find_left hb) (o3.liR rfl rfl (mem 7)))
    have hL1 : freshN [⟨b3, 0, .cel 30, [.slice p x.reads.length k, .slice p' x.writes.length k']⟩, ⟨b2, 0, .cel 33, [.slice none 0 0, .slice none 0 0, .slice none 0 0, .slice none 0 0]⟩, ⟨b1, 0, .cel 33, [.slice pb x.base.length kb, .slice pr x.reads.length kr, .slice pw x.writes.length kw, .slice pc x.cells.length kc]⟩] (M0 ++ (mem 3 ++ mem 7)) := by
      have h1 : freshN [⟨b3, 0, .cel 30, [.slice p x.reads.length k, .slice p' x.writes.length k']⟩, ⟨b2, 0, .cel 33, [.slice none 0 0, .slice none 0 0, .slice none 0 0, .slice none 0 0]⟩, ⟨b1, 0, .cel 33, [.slice pb x.base.length kb, .slice pr x.reads.length kr, .slice pw x.writes.length kw, .slice pc x.cells.length kc]⟩] (mem 3) := freshN_sym c3.1
      have h2 : freshN [⟨b3, 0, .cel 30, [.slice p x.reads.length k, .slice p' x.writes.length k']⟩, ⟨b2, 0, .cel 33, [.slice none 0 0, .slice none 0 0, .slice none 0 0, .slice none 0 0]⟩, ⟨b1, 0, .cel 33, [.slice pb x.base.length kb, .slice pr x.reads.length kr, .slice pw x.writes.length kw, .slice pc x.cells.length kc]⟩] (mem 7) := freshN_sym c7.1
      have h0 : freshN [⟨b3, 0, .cel 30, [.slice p x.reads.length k, .slice p' x.writes.length k']⟩, ⟨b2, 0, .cel 33, [.slice none 0 0, .slice none 0 0, .slice none 0 0, .slice none 0 0]⟩, ⟨b1, 0, .cel 33, [.slice pb x.base.length kb, .slice pr x.reads.length kr, .slice pw x.writes.length kw, .slice pc x.cells.length kc]⟩] M0 := ⟨(freshN_mono (A := [_, _]) a10).2.1, f2, f1, trivial⟩
      exact freshN_comb h0 (freshN_comb h1 h2)
    simp only [push_cast, seval, reduceCtorEq, v3, v7, v9]
    refine WpV.perm (H' := ⟨b3, 0, .cel 30, [.slice p x.reads.length k, .slice p' x.writes.length k']⟩ :: ⟨b2, 0, .cel 33, [.slice none 0 0, .slice none 0 0, .slice none 0 0, .slice none 0 0]⟩ :: ⟨b1, 0, .cel 33, [.slice pb x.base.length kb, .slice pr x.reads.length kr, .slice pw x.writes.length kw, .slice pc x.cells.length kc]⟩ :: (M0 ++ (mem 3 ++ mem 7))) ?_ ?_ ?_
    · rw [← List.append_assoc]
      exact List.perm_append_comm.trans (by rw [List.cons_append, List.cons_append, List.cons_append])
    · simp [marks_append, marksOf, o3.wr.2, o7.wr.2, hm]
    refine WpV.slots [(1, .pointer (some ⟨b1, 0, none⟩)), (2, .pointer (some ⟨b2, 0, none⟩)), (3, .pointer (some ⟨b3, 0, none⟩))] (by simp only [push_cast, seval, reduceCtorEq]) ?_
    generalize M0 ++ (mem 3 ++ mem 7) = M1 at hg1 q7 q3 hL1 ⊢
    simp only [push_cast, seval, reduceCtorEq] at hb3
    refine drawO gU3_ok Tryz.mix [(0, 0), (1, 0), (3, 0), (4, 0), (5, 0), (2, 2), (6, 2), (7, 0), (8, 1)] (by kernel_rfl) ?_
    simp only [push_cast, seval, reduceCtorEq, hb2, hb3]
    refine useL [_, _, _] (refOwn_R (h1.ext hg1.ext) n1 (fun y hy => by have := n2 y hy; omega)) (StR.rd _) hg1.marks hL1 fun w M2 hg2 hL2 hq2 => ?_
    obtain ⟨pv, kv, rfl⟩ := hq2.slice
    simp only [push_cast, seval, reduceCtorEq, hb2, hb3]
    refine ⟨subH_gr (N := []) trivial hg2, ?_⟩
    have hMM2 : ∀ b e, findE M2 b = some e → findE ([⟨b3, 0, .cel 30, [.slice p x.reads.length k, .slice p' x.writes.length k']⟩, ⟨b2, 0, .cel 33, [.slice none 0 0, .slice none 0 0, .slice none 0 0, .slice none 0 0]⟩, ⟨b1, 0, .cel 33, [.slice pb x.base.length kb, .slice pr x.reads.length kr, .slice pw x.writes.length kw, .slice pc x.cells.length kc]⟩] ++ M2) b = some e := find_behind hL2
    refine append_g (P := Tryz.prog) (e := 74) (sz := 35) (N := []) (cs := []) (n := 0) (ys := x.cells.flatMap Ce.cells) (m := x.cells.length) (by_ := 144) (.inl ⟨rfl, rfl, rfl, rfl⟩) ?_ (((h4.ext (hg1.trans hg2).ext).find hMM2).src (P := Tryz.prog) (xt := 31) (q := 35) (ag := true) (by simp only [push_cast, seval, reduceCtorEq])) (flatMap_len (fun y => y.len) _) (ceAll _) ?_ fun u Nu ho2 hf2 => ?_
    · simp only [push_cast, seval, reduceCtorEq]
    · unfold two47; omega
    rw [List.nil_append, Nat.zero_add] at ho2
    obtain ⟨pn, kn, hun⟩ := ho2.slice
    subst hun
    have hz := fun A hs => doneS (M := M0) (A := A) (hg1.trans hg2) ho2.wr.1 ho2.wr.2 (N1 := Nu) (v := .agg #[.slice pv x.base.length kv, .slice p x.reads.length k, .slice p' x.writes.length k', .slice pn x.cells.length kn]) (freshN_mono (A := [_, _, _]) hf2).2 (ViO.rd 74 x) ⟨_, _, _, _, rfl, hq2, q3.ext hg2.ext, q7.ext hg2.ext, ho2⟩ hs
    have hs2 := subH_new (⟨b3, 0, .cel 30, [.slice p x.reads.length k, .slice p' x.writes.length k']⟩ :: ⟨b2, 0, .cel 33, [.slice none 0 0, .slice none 0 0, .slice none 0 0, .slice none 0 0]⟩ :: ⟨b1, 0, .cel 33, [.slice pb x.base.length kb, .slice pr x.reads.length kr, .slice pw x.writes.length kw, .slice pc x.cells.length kc]⟩ :: M2) Nu fun e he x hx h => freshN_iff.1 hf2 e he x hx h
    refine ⟨hs2, ?_⟩
    rcases ho2 with ⟨x1, x2, x3, rfl⟩ | ⟨bu, cu, x3, x1, x2, rfl⟩
    · simp only [push_cast, seval, reduceCtorEq, hb2, hb3, List.append_eq, List.nil_append, List.cons_append]
      exact hz _ ((((List.Sublist.refl (dropM M2)).cons _).cons _).cons _)
    · have g2 := hf2.1
      simp only [push_cast, seval, reduceCtorEq, List.append_eq, List.nil_append, List.cons_append] at g2
      simp only [push_cast, seval, reduceCtorEq, hb2, hb3, List.append_eq, List.nil_append, List.cons_append, g2]
      exact hz _ (((((List.Sublist.refl (dropM M2)).cons _).cons _).cons _).cons_cons _)
theorem r11own_R {M : Hp} {x : Vi} {v : Value} (hv : ViR x v M) (hb : x.Fit) : CallsR Tryz.prog 64 [v] M (ViR x) :=
  (r11own_ok hv hb).toR fun v N1 A _ _ hf hq => hq.r hf
end Go.Proofs.YtincedmdkdjakaaGreat
set_option linter.unusedSimpArgs false
set_option linter.unusedVariables false
namespace Go.Proofs.YtincedmdkdjakaaGreat
open Go Go.Ev Go.Proofs
set_option maxRecDepth 100000
set_option maxHeartbeats 4000000
def plVW : Plans := fun i => if i = 7 then [] else Tryz.pl54 i
attribute [push_cast] plVW
theorem vown_ok {M : Hp} {x : Vi} {v : Value} (hv : ViR x v M) (hb : x.Fit) : CallsW Tryz.prog 54 [v] M (ViO 74 x) := by
  intro M0 hr he
  have hm := hr.marks
  replace hv := ViR.rd _ _ _ _ he.symm hv
  obtain ⟨n1, n2, n3, n4, n5⟩ := hb
  obtain ⟨vb, vr, vw, vc, rfl, ⟨L, hLb, hl, hsl⟩, h2, h3, h4⟩ := hv
  have hlen : x.base.length = L.length := by rw [← hLb, List.length_map]
  have hl0 := hl
  obtain ⟨pb, kb, rfl⟩ := hl0.slice
  obtain ⟨pr, kr, rfl⟩ := LiR.slice h2
  obtain ⟨pw, kw, rfl⟩ := LiR.slice h3
  obtain ⟨pc, kc, rfl⟩ := LiR.slice h4
  refine callsO gU3_ok Tryz.mix plVW Tryz.func54 rfl Tryz.ntmps54 Tryz.results54 rfl (by first | rfl | assumption) (Nat.le_of_ble_eq_true rfl) (by kernel_rfl) ?_
  simp only [push_cast, seval, reduceCtorEq]
  intro b1 hb1 b2 hb2
  have f1 : fresh b1 M0 := hb1
  have f2 : fresh b2 M0 := hb2.2.2
  simp only [push_cast, seval, reduceCtorEq, hb2]
  refine useB [_, _] (Q := fun u N1 H => OutG 53 27 (L.flatMap acC) L.length u N1) (fun M1 hr1 he1 => ?_) (fun _ _ _ _ _ h => h) hm ⟨f2, f1, trivial⟩ fun v N M1 hg hf hL1 hw hm1 hq => ?_
  · exact (cloneA_ok (hl.congr he1.symm) (fun y hy => (hsl y hy).one) hr1.marks (by omega)).toK fun u N h => ⟨N, [], by simp, h.wr.1, h.wr.2, trivial, rfl, freshN_nil _, fun _ => h⟩
  obtain ⟨p, c, rfl⟩ := hq.slice
  simp only [push_cast, seval, reduceCtorEq, hb2]
  have fNM : ∀ b, fresh b (N ++ M1) → fresh b N ∧ fresh b M1 := fun b h => fresh_app_iff.1 h
  refine loopO gU3_ok (pl := Tryz.pl54) Tryz.mix (X := Nat × List (Ac × Value) × Hp × Hp)
    (fun s => ([(1, .pointer (some ⟨b1, 0, none⟩)), (2, .pointer (some ⟨b2, 0, none⟩)), (10, .int .i64 L.length), (11, .int .i64 s.1)], ⟨b2, 0, .cel 33, [.slice none 0 0, .slice none 0 0, .slice none 0 0, .slice none 0 0]⟩ :: ⟨b1, 0, .cel 33, [.slice p L.length c, .slice pr x.reads.length kr, .slice pw x.writes.length kw, .slice pc x.cells.length kc]⟩ :: (s.2.2.1 ++ s.2.2.2)))
    (fun s => s.1 ≤ L.length ∧ s.2.1.map (·.1) = (L.take s.1).map (·.1) ∧ OutG 53 27 ((s.2.1 ++ L.drop s.1).flatMap acC) L.length (.slice p L.length c) s.2.2.1 ∧ Gr M0 s.2.2.2 ∧ freshN s.2.2.1 s.2.2.2 ∧ freshN [⟨b2, 0, .cel 33, [.slice none 0 0, .slice none 0 0, .slice none 0 0, .slice none 0 0]⟩, ⟨b1, 0, .cel 33, [.slice p L.length c, .slice pr x.reads.length kr, .slice pw x.writes.length kw, .slice pc x.cells.length kc]⟩] (s.2.2.1 ++ s.2.2.2) ∧ ∀ y ∈ s.2.1, LiR Sl.cells 8 s.2.2.2 y.1.slots y.2)
    (fun s => L.length - s.1) (0, [], N, M1) ?_ ?_ (by kernel_rfl) ?_
  · exact ⟨Nat.zero_le _, rfl, hq, hg, hf, hL1, fun y hy => by cases hy⟩
  · simp only [push_cast, seval, reduceCtorEq]
  · rintro ⟨i, B, N, M1⟩ ⟨hi, hB, ho, hg, hf, hL, hsB⟩
    dsimp only at hi hB ho hg hf hL hsB ⊢
    have hBl : B.length = i := by have := congrArg List.length hB; simpa [Nat.min_eq_left hi] using this
    rcases Nat.lt_or_ge i L.length with hlt | hge
    · rcases ho with ⟨h0, -⟩ | ⟨b, c0, hvv, hc, hcl, rfl⟩
      · omega
      cases hvv
      obtain ⟨y, hy⟩ : ∃ x, L[i]? = some x := ⟨L[i], List.getElem?_eq_getElem hlt⟩
      have hd : L.drop i = y :: L.drop (i + 1) := by
        rw [List.drop_eq_getElem_cons hlt, (List.getElem?_eq_some_iff.1 hy).2]
      rw [hd] at hcl ⊢
      obtain ⟨a1, a2⟩ := acC_at (B := B) (R := L.drop (i + 1)) (x := y)
      have a3 := fun sv => acC_set (B := B) (R := L.drop (i + 1)) (x := y) (sv := sv)
      rw [hBl] at a1 a2 a3
      have i1 : (i : Int) < (L.length : Int) := by omega
      have hym := List.mem_of_getElem? hy
      have q2 := hL.1
      have q1 := hL.2.1
      simp only [push_cast, seval, reduceCtorEq] at q1 q2
      simp only [push_cast, seval, reduceCtorEq, hb2, i1, hlt, a1, a2, q1, q2]
      have hLv : freshN [⟨b2, 0, .cel 33, [.slice none 0 0, .slice none 0 0, .slice none 0 0, .slice none 0 0]⟩, ⟨b1, 0, .cel 33, [.slice (some ⟨b, 0, none⟩) L.length c, .slice pr x.reads.length kr, .slice pw x.writes.length kw, .slice pc x.cells.length kc]⟩, ⟨b, 0, .vec 53 27 c, (B ++ y :: L.drop (i + 1)).flatMap acC⟩] M1 := ⟨q2.2.2, q1.2.2, hf.1, trivial⟩
      refine useL [_, _, _] (cloneS_R ((hsl y hym).ext hg.ext) (by have := n2 _ (hLb ▸ List.mem_map_of_mem hym); omega)) (LiR.rd _) hg.marks hLv fun w M2 hg2 hf2 hq2 => ?_
      obtain ⟨ps, ks, rfl⟩ := hq2.slice
      simp only [push_cast, seval, reduceCtorEq, hb2, i1, hlt, a1, a2, a3, q1, q2, wrap_i64' (show -9223372036854775808 ≤ (i : Int) + 1 ∧ (i : Int) + 1 ≤ 9223372036854775807 by omega)]
      have ea : B ++ (y.1, Value.slice ps y.1.slots.length ks) :: L.drop (i + 1) = (B ++ [(y.1, Value.slice ps y.1.slots.length ks)]) ++ L.drop (i + 1) := by simp
      refine ⟨subH_gr (N := []) trivial hg2, (i + 1, B ++ [(y.1, Value.slice ps y.1.slots.length ks)], [⟨b, 0, .vec 53 27 c, (B ++ (y.1, Value.slice ps y.1.slots.length ks) :: L.drop (i + 1)).flatMap acC⟩], M2), ⟨hlt, ?_, .inr ⟨b, c, rfl, hc, ?_, by rw [ea]⟩, hg.trans hg2, ⟨hf2.2.2.1, trivial⟩, ⟨⟨q2.1, q2.2.1, hf2.1⟩, ⟨q1.1, q1.2.1, hf2.2.1⟩⟩, ?_⟩, by dsimp only; omega, rfl, subH_self _, rfl⟩
      · rw [List.map_append, hB, List.take_add_one, hy, List.map_append]; rfl
      · rw [flatMap_len acC_len]
        simp only [List.length_append, List.length_cons, List.length_drop, hBl, List.length_nil]
        congr 1; omega
      · intro z hz
        rcases List.mem_append.1 hz with hz | hz
        · exact (hsB z hz).ext hg2.ext
        · rw [List.mem_singleton.1 hz]; exact hq2
    · obtain rfl : i = L.length := by omega
      rw [List.drop_length, List.append_nil] at ho
      have hst : StO 53 x.base (.slice p L.length c) N M1 := ⟨B, hB.trans (by rw [List.take_length, hLb]), by rw [hBl]; exact ho, hsB⟩
      have hst2 : StR x.base (.slice p L.length c) (M1 ++ N) := StR.rd _ _ _ _ (cellsAt_swap hf) (hst.r hf)
      simp only [push_cast, seval, reduceCtorEq, Nat.lt_irrefl, Int.lt_irrefl]
      refine WpV.perm (H' := ⟨b2, 0, .cel 33, [.slice none 0 0, .slice none 0 0, .slice none 0 0, .slice none 0 0]⟩ :: ⟨b1, 0, .cel 33, [.slice p L.length c, .slice pr x.reads.length kr, .slice pw x.writes.length kw, .slice pc x.cells.length kc]⟩ :: (M1 ++ N)) (((List.perm_append_comm).cons _).cons _) (by simp [marks_append, marksOf, ho.wr.2, hg.marks]) ?_
      refine WpV.slots [(1, .pointer (some ⟨b1, 0, none⟩)), (2, .pointer (some ⟨b2, 0, none⟩))] (by simp only [push_cast, seval, reduceCtorEq]) ?_
      have hg1 : Gr M0 (M1 ++ N) := hg.trans ⟨hg.marks, N, rfl, ho.wr.1, ho.wr.2⟩
      have hLx : freshN [⟨b2, 0, .cel 33, [.slice none 0 0, .slice none 0 0, .slice none 0 0, .slice none 0 0]⟩, ⟨b1, 0, .cel 33, [.slice p L.length c, .slice pr x.reads.length kr, .slice pw x.writes.length kw, .slice pc x.cells.length kc]⟩] (M1 ++ N) := ⟨fresh_app_iff.2 ⟨(fresh_app_iff.1 hL.1).2, (fresh_app_iff.1 hL.1).1⟩, fresh_app_iff.2 ⟨(fresh_app_iff.1 hL.2.1).2, (fresh_app_iff.1 hL.2.1).1⟩, trivial⟩
      generalize M1 ++ N = M2 at hst2 hg1 hLx ⊢
      refine drawO gU3_ok Tryz.mix [(0, 0), (1, 0), (2, 0), (4, 0), (5, 0), (6, 0), (3, 2), (7, 2), (8, 0), (9, 0), (10, 1)] (by kernel_rfl) ?_
      simp only [push_cast, seval, reduceCtorEq, hb2]
      refine useL [_, _] (cloneY_R (h2.ext hg1.ext) n3) (LiR.rd _) hg1.marks hLx fun w M3 hg3 hL3 hq3 => ?_
      obtain ⟨p3, k3, rfl⟩ := hq3.slice
      simp only [push_cast, seval, reduceCtorEq, hb2]
      refine ⟨subH_gr (N := []) trivial hg3, ?_⟩
      refine useL [_, _] (cloneY_R (h3.ext (hg1.trans hg3).ext) n4) (LiR.rd _) hg3.marks hL3 fun w M4 hg4 hL4 hq4 => ?_
      obtain ⟨p4, k4, rfl⟩ := hq4.slice
      simp only [push_cast, seval, reduceCtorEq, hb2]
      refine ⟨subH_gr (N := []) trivial hg4, ?_⟩
      refine useB [_, _] (cloneE_W (h4.ext ((hg1.trans hg3).trans hg4).ext) n5) (fun _ _ _ _ _ h => h) hg4.marks hL4 fun w N5 M5 hg5 hf5 hL5 hw5 hm5 hq5 => ?_
      obtain ⟨p5, k5, rfl⟩ := hq5.slice
      simp only [push_cast, seval, reduceCtorEq, hb2]
      exact doneN [_, _] (((hg1.trans hg3).trans hg4).trans hg5) hw5 hm5 hf5 (ViO.rd _ _) ⟨_, _, _, _, rfl, hst2.ext ((hg3.trans hg4).trans hg5).ext, hq3.ext (hg4.trans hg5).ext, hq4.ext hg5.ext, hq5⟩
theorem vown_R {M : Hp} {x : Vi} {v : Value} (hv : ViR x v M) (hb : x.Fit) : CallsR Tryz.prog 54 [v] M (ViR x) :=
  (vown_ok hv hb).toR fun v N1 A _ _ hf hq => hq.r hf
end Go.Proofs.YtincedmdkdjakaaGreat
set_option linter.unusedSimpArgs false
set_option linter.unusedVariables false
namespace Go.Ev
structure PlaceC (L : List Ce) (a : Ky) (i : Nat) : Prop where
  le : i ≤ L.length
  lo : ∀ (k : Nat) (x : Ce), k < i → L[k]? = some x → x.key.lt a
  hi : ∀ (k : Nat) (x : Ce), i ≤ k → L[k]? = some x → ¬ x.key.lt a
end Go.Ev
namespace Go.Proofs.YtincedmdkdjakaaGreat
open Go Go.Ev Go.Proofs
set_option maxRecDepth 100000
set_option maxHeartbeats 4000000
theorem bsearchC_ok {H : Hp} {L : List Ce} {v : Value} {a : Ce} (hm : marksOf H = []) (hn : L.length ≤ 1000000000) (hl : LiR Ce.cells 35 H L v) (hs : L.Pairwise fun x y => x.key.lt y.key) :
    CallsV Tryz.prog 114 [v, a.v, .func (.func 67) #[] #[]] H (fun u N => ∃ i, PlaceC L a.key i ∧ u = .tuple #[.int .i64 i, .bool (decide (∃ x, L[i]? = some x ∧ x.key = a.key))] ∧ N = []) := by
  obtain ⟨p, k, rfl, hla⟩ := LiR.openE hl
  refine callsO gU3_ok Tryz.mix Tryz.pl114 Tryz.func114 rfl Tryz.ntmps114 Tryz.results114 rfl (by first | rfl | assumption) (Nat.le_of_ble_eq_true rfl) (by kernel_rfl) ?_
  simp only [push_cast, seval, reduceCtorEq]
  intro b4 hb4
  refine loopO gU3_ok (pl := Tryz.pl114) Tryz.mix (X := Nat × Nat)
    (fun s => ([(0, .slice p L.length k), (2, .func (.func 67) #[] #[]), (4, .pointer (some ⟨b4, 0, none⟩)), (8, .int .i64 L.length), (9, .int .i64 s.1), (10, .int .i64 s.2)], ⟨b4, 0, .cel 74, a.cells⟩ :: H))
    (fun s => s.1 ≤ s.2 ∧ s.2 ≤ L.length ∧ (∀ (k : Nat) (x : Ce), k < s.1 → L[k]? = some x → x.key.lt a.key) ∧ ∀ (k : Nat) (x : Ce), s.2 ≤ k → L[k]? = some x → ¬ x.key.lt a.key) (fun s => s.2 - s.1) (0, L.length) ?_ ?_ (by kernel_rfl) ?_
  · exact ⟨Nat.zero_le _, Nat.le_refl _, fun k x h => absurd h (Nat.not_lt_zero _), fun k x h hx => absurd (List.getElem?_eq_some_iff.1 hx).1 (by dsimp only at h; omega)⟩
  · simp only [push_cast, seval, reduceCtorEq]
  · rintro ⟨i, j⟩ ⟨hij, hj, hlo, hhi⟩
    dsimp only at hij hj hlo hhi ⊢
    rcases Nat.lt_or_ge i j with hlt | hge
    · have i1 : (i : Int) < (j : Int) := by omega
      obtain ⟨m, hmm⟩ : ∃ m, (i + j) / 2 = m := ⟨_, rfl⟩
      have hh := half_mid (i := i) (j := j) (by omega) hmm
      have him : i ≤ m := by omega
      have hmj : m < j := by omega
      obtain ⟨x, hx⟩ : ∃ x, L[m]? = some x := ⟨L[m]'(by omega), List.getElem?_eq_getElem (by omega)⟩
      rcases hla with rfl | ⟨b, f', d, kd, cs, rfl, hfe, hat⟩
      · simp at hx
      obtain ⟨a1, a2⟩ := hat m x hx
      have n4 := (fresh_findS hb4 hfe).2
      have i2 : m < L.length := by omega
      by_cases hc : x.key.lt a.key
      · have hc0 : ordY x.key a.key < 0 := ordY_neg.2 hc
        simp only [push_cast, seval, reduceCtorEq, i1, hlt, wrap_i64' (show -9223372036854775808 ≤ (i : Int) + (j : Int) ∧ (i : Int) + (j : Int) ≤ 9223372036854775807 by omega), hh, i2, hfe, n4, a1, a2, hc0, wrap_i64' (show -9223372036854775808 ≤ (m : Int) + 1 ∧ (m : Int) + 1 ≤ 9223372036854775807 by omega)]
        refine ⟨(m + 1, j), ⟨hmj, hj, fun q y hq hy => ?_, hhi⟩, by dsimp only; omega, rfl, rfl⟩
        rcases Nat.lt_or_ge q m with h | h
        · exact Ky.lt_trans (by
            obtain ⟨hq1, hq2⟩ := List.getElem?_eq_some_iff.1 hy
            obtain ⟨hm1, hm2⟩ := List.getElem?_eq_some_iff.1 hx
            have := List.pairwise_iff_getElem.1 hs q m hq1 hm1 h
            rwa [hq2, hm2] at this) hc
        · obtain rfl : q = m := by omega
          rw [hx] at hy; cases hy; exact hc
      · have hc0 : ¬ ordY x.key a.key < 0 := fun h => hc (ordY_neg.1 h)
        simp only [push_cast, seval, reduceCtorEq, i1, hlt, wrap_i64' (show -9223372036854775808 ≤ (i : Int) + (j : Int) ∧ (i : Int) + (j : Int) ≤ 9223372036854775807 by omega), hh, i2, hfe, n4, a1, a2, hc0]
        refine ⟨(i, m), ⟨him, by omega, hlo, fun q y hq hy => ?_⟩, by dsimp only; omega, rfl, rfl⟩
        rcases Nat.lt_or_ge m q with h | h
        · exact fun hcc => hc (Ky.lt_trans (by
            obtain ⟨hq1, hq2⟩ := List.getElem?_eq_some_iff.1 hy
            obtain ⟨hm1, hm2⟩ := List.getElem?_eq_some_iff.1 hx
            have := List.pairwise_iff_getElem.1 hs m q hm1 hq1 h
            rwa [hq2, hm2] at this) hcc)
        · obtain rfl : q = m := by dsimp only at hq; omega
          rw [hx] at hy; cases hy; exact hc
    · obtain rfl : i = j := by omega
      rcases Nat.lt_or_ge i L.length with h1 | h1
      · obtain ⟨x, hx⟩ : ∃ x, L[i]? = some x := ⟨L[i], List.getElem?_eq_getElem h1⟩
        rcases hla with rfl | ⟨b, f', d, kd, cs, rfl, hfe, hat⟩
        · simp at hx
        obtain ⟨a1, a2⟩ := hat i x hx
        have n4 := (fresh_findS hb4 hfe).2
        have i1 : (i : Int) < (L.length : Int) := by omega
        have hP : PlaceC L a.key i := ⟨hj, hlo, hhi⟩
        by_cases hxa : x.key = a.key
        · have hc0 : (ordY x.key a.key == 0) = true := beq_iff_eq.2 (ordY_zero.2 hxa)
          simp only [push_cast, seval, reduceCtorEq, hc0, hfe, n4, a1, a2, Nat.lt_irrefl, Int.lt_irrefl, i1, h1]
          refine ⟨[], List.nil_sublist _, i, hP, ?_, rfl⟩
          rw [decide_eq_true ⟨x, hx, hxa⟩]
        · have hc0 : (ordY x.key a.key == 0) = false := beq_eq_false_iff_ne.2 fun h => hxa (ordY_zero.1 h)
          simp only [push_cast, seval, reduceCtorEq, hc0, hfe, n4, a1, a2, Nat.lt_irrefl, Int.lt_irrefl, i1, h1]
          refine ⟨[], List.nil_sublist _, i, hP, ?_, rfl⟩
          rw [decide_eq_false]
          rintro ⟨y, hy, hya⟩
          rw [hx] at hy; cases hy; exact hxa hya
      · have i1 : ¬ (i : Int) < (L.length : Int) := by omega
        have i2 : ¬ i < L.length := by omega
        simp only [push_cast, seval, reduceCtorEq, Nat.lt_irrefl, Int.lt_irrefl, i1, i2]
        refine ⟨[], List.nil_sublist _, i, ⟨hj, hlo, hhi⟩, ?_, rfl⟩
        rw [decide_eq_false]
        rintro ⟨y, hy, -⟩
        exact i2 (List.getElem?_eq_some_iff.1 hy).1
theorem vfind_ok {H : Hp} {L : List Ce} {v : Value} {a : Ce} (hm : roM H) (hn : L.length ≤ 1000000000) (hl : LiR Ce.cells 35 H L v) (hs : L.Pairwise fun x y => x.key.lt y.key) :
    CallsV Tryz.prog 80 [v, a.v, .func (.func 67) #[] #[]] H (fun u N => (∃ i, PlaceC L a.key i ∧ u = .tuple #[.int .i64 i, .bool (decide (∃ x, L[i]? = some x ∧ x.key = a.key))]) ∧ N = []) := by
  have hm0 := hm.marks
  obtain ⟨p, k, rfl, -⟩ := LiR.openE hl
  refine callsO gU3_ok Tryz.mix Tryz.pl80 Tryz.func80 rfl Tryz.ntmps80 Tryz.results80 rfl (by first | rfl | assumption) (Nat.le_of_ble_eq_true rfl) (by kernel_rfl) ?_
  simp only [push_cast, seval, reduceCtorEq]
  intro b4 hb4
  have hx : Ext H (⟨b4, 0, .cel 74, a.cells⟩ :: H) := Ext.cons hm0 rfl hb4
  refine useV (Q := fun u => ∃ i, PlaceC L a.key i ∧ u = .tuple #[.int .i64 i, .bool (decide (∃ y, L[i]? = some y ∧ y.key = a.key))]) (fun M2 hr2 he2 => (bsearchC_ok (a := a) hr2.marks hn ((hl.ext hx).congr he2.symm) hs).toK fun u N h => ?_) ?_
  · obtain ⟨i, hi, h1, h2⟩ := h
    exact ⟨⟨i, hi, h1⟩, h2⟩
  rintro u ⟨i, hi, rfl⟩
  simp only [push_cast, seval, reduceCtorEq]
  exact ⟨[], List.nil_sublist _, ⟨i, hi, rfl⟩, rfl⟩
end Go.Proofs.YtincedmdkdjakaaGreat
set_option linter.unusedSimpArgs false
set_option linter.unusedVariables false
namespace Go.Ev
theorem drawN {P : Program} {r : Option Nat} {n : Nat} {G : Gam} (hG : GamOk P G) (hmix : P.follows .mixedOrders = true) {id : Nat} {ops : Array Oper} {K : Exit → Tm → Hp → Prop} {T : Tm} {H : Hp} (Tb : Tm) (val : Nat → Value) (st : (Nat → Bool) → Hp)
    (hb : backB ops = true) (hd : dstB n ops = true) (hTb : subT T Tb) (hTd : (Tb.all fun x => !(ops.toList.filterMap (·.dst)).contains x.1) = true) (h0 : H = st (fun _ => false))
    (step : ∀ (i : Nat) (o : Oper), ops[i]? = some o → ∀ (l : Nat → Bool) (T' : Tm), l i = false → (∀ j, (o.after.any fun e => Region.binds .any e && e.on == j) = true → l j = true ∧ ∀ s, (ops[j]?).bind (·.dst) = some s → getT T' s = some (val j)) →
      (∀ k j, ((ops[k]?).any fun p => p.after.any fun e => Region.binds .any e && e.on == j) = true → l k = true → l j = true) → subT T' Tb →
      evOp P G T' (st l) o.op (fun v H'' => (o.dst.isSome = true → v = val i) ∧ H'' = st (fun j => j == i || l j)))
    (fin : ∀ l, (∀ i, i < ops.size → l i = true) → K .normal (dstsL val Tb ops.toList 0) (st l)) : WpV P r n (.region id ops true) K T H := by
  refine drawI hG hmix (fun l T' H' => H' = st l ∧ (∀ i o, ops[i]? = some o → l i = true → (∀ e ∈ o.after, Region.binds .any e = true → l e.on = true) ∧ ∀ s, o.dst = some s → getT T' s = some (val i)) ∧ subT T' Tb) hb ⟨h0, (fun _ _ _ h => by cases h), hTb⟩ ?_ ?_
  · rintro l T' H' i o hap ⟨rfl, h1, h2⟩ ho hli hdeps
    refine ⟨_, _, List.Perm.refl _, rfl, step i o ho l T' hli (fun j hj => ?_) (fun k j hk hl => ?_) h2, ?_⟩
    · obtain ⟨e, he, heb⟩ := Array.any_eq_true'.1 hj
      simp only [Bool.and_eq_true, beq_iff_eq] at heb
      obtain ⟨hbb, rfl⟩ := heb
      have hlt := (backB_spec hb ho).2 e he hbb
      have hi := (Array.getElem?_eq_some_iff.1 ho).1
      have hp : ops[e.on]? = some ops[e.on] := Array.getElem?_eq_getElem (by omega)
      exact ⟨hdeps e he hbb, fun s hs => (h1 e.on _ hp (hdeps e he hbb)).2 s (by rw [hp] at hs; exact hs)⟩
    · cases hp : ops[k]? with
      | none => rw [hp] at hk; cases hk
      | some p =>
        rw [hp] at hk
        obtain ⟨e, he, heb⟩ := Array.any_eq_true'.1 hk
        simp only [Bool.and_eq_true, beq_iff_eq] at heb
        obtain ⟨hbb, rfl⟩ := heb
        exact (h1 k p hp hl).1 e he hbb
    · rintro v H'' ⟨hv, rfl⟩
      have hni : ∀ j, l j = true → j ≠ i := fun j hj h => by rw [h, hli] at hj; cases hj
      refine ⟨rfl, fun j p hp hj => ?_, subT_of fun k u hm => ?_⟩
      · by_cases hji : j = i
        · subst hji
          obtain rfl : o = p := Option.some.inj (ho.symm.trans hp)
          refine ⟨fun e he hbb => by show (e.on == j || l e.on) = true; rw [hdeps e he hbb, Bool.or_true], fun s hs => ?_⟩
          rw [hs, getT_put (dstB_spec hd ho hs).1, if_pos rfl, hv (by rw [hs]; rfl)]
        · have hjl : l j = true := by simpa [hji] using hj
          obtain ⟨g1, g4⟩ := h1 j p hp hjl
          refine ⟨fun e he hbb => by show (e.on == i || l e.on) = true; rw [g1 e he hbb, Bool.or_true], fun s hs => ?_⟩
          cases hod : o.dst with
          | none => exact g4 s hs
          | some s' =>
            rw [getT_put (dstB_spec hd ho hod).1, if_neg (fun hss => hji ((dstB_spec hd hp hs).2 i o ho (by rw [hod, hss])))]
            exact g4 s hs
      · have h9 := subT_mem h2 hm
        cases hod : o.dst with
        | none => exact h9
        | some s' =>
          rw [getT_put (dstB_spec hd ho hod).1, if_neg (fun hks => ?_)]
          · exact h9
          · have := List.all_eq_true.1 hTd (k, u) hm
            simp only [Bool.not_eq_true', List.contains_eq_mem, decide_eq_false_iff_not] at this
            exact this (List.mem_filterMap.2 ⟨o, List.mem_of_getElem? (by simpa using ho), by rw [hod, hks]⟩)
  · rintro l T' H' hall hap ⟨rfl, h1, h2⟩
    refine ⟨_, _, List.Perm.refl _, rfl, subT_of fun k u hm => ?_, fin l hall⟩
    rcases dstsL_mem hm with h | ⟨j, o, ho, hs, rfl⟩
    · exact subT_mem h2 h
    · have ho' : ops[j]? = some o := by simpa using ho
      rw [Nat.zero_add]
      exact (h1 j o ho' (hall j (Array.getElem?_eq_some_iff.1 ho').1)).2 k hs
end Go.Ev
