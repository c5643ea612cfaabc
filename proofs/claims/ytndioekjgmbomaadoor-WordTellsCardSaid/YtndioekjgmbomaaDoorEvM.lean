/- EvM: code; a function's contract from its body; loops. -/
import Derived.Test.YtndioekjgmbomaaDoorEvJ
set_option linter.unusedSimpArgs false
set_option linter.unusedVariables false
namespace Go.Ev
open Go.RowKit

/-- for each region whose order is open, by its number: its schedule -/
abbrev Plans := Nat → List (Nat × Nat)

section
variable {P : Program} {r : Option Nat} {n : Nat}

def evC (P : Program) (G : Gam) (pl : Plans) (r : Option Nat) (n : Nat) : Code → (Exit → Tm → Hp → Prop) → Tm → Hp → Prop
  | .skip, K, T, H => K .normal T H
  | .label _, K, T, H => K .normal T H
  | .ret, K, T, H => K .ret T H
  | .exit id, K, T, H => K (.exit id) T H
  | .seq x y, K, T, H => evC P G pl r n x (thenK (evC P G pl r n y K) K) T H
  | .block id c, K, T, H => evC P G pl r n c (blockK id K) T H
  | .cond c x y, K, T, H => match opd T c with
    | some (.bool b) => (b = true → evC P G pl r n x K T H) ∧ (b = false → evC P G pl r n y K T H)
    | _ => False
  | .region id ops draw, K, T, H => match draw with
    | false => match pl id with
      | [] => evOps P G n ops.toList (K .normal) ops.toList T H
      | _ => WpV P r n (.region id ops false) K T H
    | true => match pl id with
      | [] => WpV P r n (.region id ops true) K T H
      | s => evD P G n ops.toList (K .normal) s T H
  | .loop c, K, T, H => WpV P r n (.loop c) K T H
  | .rangeFunc f ps x y, K, T, H => WpV P r n (.rangeFunc f ps x y) K T H
  | .scope c, K, T, H => WpV P r n (.scope c) K T H
  | .goto l, K, T, H => WpV P r n (.goto l) K T H
  | .refuse _, _, _, _ => False

/-! ### a cheaper check, where each operation is taken in the order of the text -/
def chkS (ops : Array Oper) : List Oper → Nat → Bool
  | [], _ => true
  | oi :: r, i => oi.after.all (fun e => !Region.binds .any e || decide (e.on < i)) && r.all (fun oj => oj.after.any (fun e => Region.binds .any e && e.on == i) || oi.apart ops oj) && chkS ops r (i + 1)
def seqP (i n : Nat) : List (Nat × Nat) := (List.range' i n).map fun j => (j, 0)
def ListedTo (n i : Nat) (l : Array Bool) : Prop := l.size = n ∧ ∀ j, j < n → l[j]? = some (decide (j < i))
theorem ListedTo.getD {n i : Nat} {l : Array Bool} (h : ListedTo n i l) {j : Nat} (hj : j < n) (d : Bool) : l.getD j d = decide (j < i) := by
  rw [Array.getD_eq_getD_getElem?, h.2 j hj]; rfl
theorem ListedTo.next {n i : Nat} {l : Array Bool} (h : ListedTo n i l) (hi : i < n) : ListedTo n (i + 1) (l.setIfInBounds i true) := by
  refine ⟨by simpa using h.1, fun j hj => ?_⟩
  rw [Array.getElem?_setIfInBounds]
  split
  · rename_i he
    subst he
    rw [if_pos (by rw [h.1]; exact hj)]
    simp
  · rename_i hne
    rw [h.2 j hj]
    congr 1
    simp only [decide_eq_decide]
    omega
theorem chkD_seq {ops : Array Oper} {keep : Nat → Bool} (hk : ∀ j, j < ops.size → keep j = true) : ∀ (m i : Nat) (l : Array Bool), i + m = ops.size → ListedTo ops.size i l → chkS ops (ops.toList.drop i) i = true → chkD ops keep (seqP i m) l = true
  | 0, i, l, him, hl, _ => by
    show (Region.ready .any ops l).isEmpty = true
    unfold Region.ready
    rw [List.isEmpty_iff, List.filter_eq_nil_iff]
    intro j hj
    rw [List.mem_range] at hj
    rw [hl.getD hj, decide_eq_true (by omega)]
    simp
  | m + 1, i, l, him, hl, hc => by
    have hi : i < ops.size := by omega
    have hil : i < ops.toList.length := by simpa using hi
    have hoi : ops[i]? = some ops[i] := Array.getElem?_eq_getElem hi
    rw [List.drop_eq_getElem_cons hil] at hc
    simp only [chkS, Bool.and_eq_true] at hc
    obtain ⟨⟨h1, h2⟩, h3⟩ := hc
    rw [Array.getElem_toList] at h1 h2
    have ih := chkD_seq hk m (i + 1) (l.setIfInBounds i true) (by omega) (hl.next hi) h3
    show (chkOne ops keep i 0 l && chkD ops keep (seqP (i + 1) m) (l.setIfInBounds i true)) = true
    rw [ih, Bool.and_true]
    refine Bool.and_eq_true_iff.2 ⟨Bool.and_eq_true_iff.2 ⟨?_, ?_⟩, ?_⟩
    · unfold Region.ready
      rw [List.contains_iff_mem, List.mem_filter]
      refine ⟨List.mem_range.2 hi, ?_⟩
      rw [hl.getD hi, decide_eq_false (by omega), hoi]
      simp only [Bool.not_false, Bool.true_and, Option.map_some, Option.getD_some]
      rw [Array.all_eq_true_iff_forall_mem] at h1 ⊢
      intro e he
      have := h1 e he
      rw [Bool.or_eq_true] at this ⊢
      refine this.imp id fun h => ?_
      rw [decide_eq_true_eq] at h
      rw [hl.getD (by omega), decide_eq_true h]
    · unfold Region.free
      rw [hoi]
      dsimp only
      rw [List.all_eq_true]
      intro j hj
      rw [List.mem_range] at hj
      rcases Nat.lt_trichotomy j i with h | h | h
      · rw [hl.getD hj, decide_eq_true h]; simp
      · subst h; simp
      · have hoj : ops[j]? = some ops[j] := Array.getElem?_eq_getElem hj
        rw [hoj]
        dsimp only
        have hm : ops[j] ∈ ops.toList.drop (i + 1) := by
          rw [List.mem_iff_getElem?]
          refine ⟨j - (i + 1), ?_⟩
          rw [List.getElem?_drop, show i + 1 + (j - (i + 1)) = j by omega, Array.getElem?_toList, hoj]
        rw [List.all_eq_true.1 h2 _ hm]
        simp
    · rw [List.all_eq_true]
      intro j hj
      rw [List.mem_range] at hj
      rw [hk j hj]
      simp
def planS (ops : Array Oper) (s : List (Nat × Nat)) : Bool := s == seqP 0 ops.size && Region.noSelect ops && chkS ops ops.toList 0
theorem planS_ok {ops : Array Oper} {s : List (Nat × Nat)} (h : planS ops s = true) : planOk ops s = true := by
  unfold planS at h
  simp only [Bool.and_eq_true, beq_iff_eq] at h
  obtain ⟨⟨rfl, h1⟩, h2⟩ := h
  have hk : ∀ j, j < ops.size → keepOf (seqP 0 ops.size) j = true := fun j hj => by
    unfold keepOf seqP
    rw [List.any_eq_true]
    exact ⟨(j, 0), List.mem_map.2 ⟨j, by rw [List.mem_range'_1]; omega, rfl⟩, by simp⟩
  unfold planOk
  rw [h1, chkD_seq hk ops.size 0 _ (by omega) ⟨by simp, fun j hj => by simp [hj]⟩ (by simpa using h2)]
  simp only [Bool.true_and, Bool.and_true, Bool.and_eq_true, beq_iff_eq]
  refine ⟨by simp [seqP], ?_⟩
  rw [List.all_eq_true]
  intro x hx
  obtain ⟨j, _, rfl⟩ := List.mem_map.1 hx
  simp
/-- the schedules serve at every region whose order is open -/
def plansOk (pl : Plans) : Code → Bool
  | .region id ops draw => !draw || (pl id).isEmpty || (planS ops (pl id) || planOk ops (pl id))
  | .seq a b => plansOk pl a && plansOk pl b
  | .cond _ a b => plansOk pl a && plansOk pl b
  | .block _ c => plansOk pl c
  | _ => true

theorem evC_ok {G : Gam} (hG : GamOk P G) {pl : Plans} (hmix : P.follows .mixedOrders = true) : ∀ (c : Code) (K : Exit → Tm → Hp → Prop) (T : Tm) (H : Hp), plansOk pl c = true → evC P G pl r n c K T H → WpV P r n c K T H
  | .skip, K, T, H, _, h => fun w0 mu a w hr ht hs hd => wpIn_skip ⟨T, H, h, ht, hs, hd⟩
  | .label _, K, T, H, _, h => fun w0 mu a w hr ht hs hd => wpIn_label ⟨T, H, h, ht, hs, hd⟩
  | .ret, K, T, H, _, h => fun w0 mu a w hr ht hs hd => wpIn_ret ⟨T, H, h, ht, hs, hd⟩
  | .exit id, K, T, H, _, h => fun w0 mu a w hr ht hs hd => wpIn_exit ⟨T, H, h, ht, hs, hd⟩
  | .seq x y, K, T, H, hp, h => fun w0 mu a w hr ht hs hd => by
    simp only [plansOk, Bool.and_eq_true] at hp
    refine wpIn_seq (wpIn_mono (evC_ok hG hmix x _ T H hp.1 h w0 mu a w hr ht hs hd) ?_)
    rintro e a' w' ⟨T', H', hk, ht', hs', hd'⟩
    cases e with
    | normal => exact evC_ok hG hmix y K T' H' hp.2 hk w0 mu a' w' hr ht' hs' hd'
    | _ => exact ⟨T', H', hk, ht', hs', hd'⟩
  | .block id c, K, T, H, hp, h => fun w0 mu a w hr ht hs hd => by
    refine wpIn_block (wpIn_mono (evC_ok hG hmix c _ T H (by simpa only [plansOk] using hp) h w0 mu a w hr ht hs hd) ?_)
    rintro e a' w' ⟨T', H', hk, ht', hs', hd'⟩
    cases e with
    | exit id' =>
      simp only [Exit.inBlock]
      simp only [blockK] at hk
      split
      · rename_i hid; rw [if_pos hid] at hk; exact ⟨T', H', hk, ht', hs', hd'⟩
      · rename_i hid; rw [if_neg hid] at hk; exact ⟨T', H', hk, ht', hs', hd'⟩
    | _ => exact ⟨T', H', hk, ht', hs', hd'⟩
  | .cond c x y, K, T, H, hp, h => fun w0 mu a w hr ht hs hd => by
    simp only [plansOk, Bool.and_eq_true] at hp
    simp only [evC] at h
    split at h
    · rename_i b hc
      refine wpIn_cond (opd_eval ht hc) ?_
      cases b
      · exact evC_ok hG hmix y K T H hp.2 (h.2 rfl) w0 mu a w hr ht hs hd
      · exact evC_ok hG hmix x K T H hp.1 (h.1 rfl) w0 mu a w hr ht hs hd
    · exact h.elim
  | .region id ops draw, K, T, H, hp, h => by
    cases draw with
    | true =>
      simp only [plansOk, Bool.not_true, Bool.false_or, Bool.or_eq_true] at hp
      simp only [evC] at h
      split at h
      · exact h
      · rename_i s hne
        rcases hp with hp | hp
        · exact absurd (by simpa using hp) hne
        · exact drawV hG hmix _ (hp.elim planS_ok fun hh => hh) h
    | false =>
      simp only [evC] at h
      split at h
      case h_2 => exact h
      intro w0 mu a w hr ht hs hd
      refine wpIn_region ?_
      rw [List.range_eq_range', ← Array.length_toList]
      refine evOps_ok hG (K := K .normal) (M := marksOf H) (D := defersOf H) (fun T' H' a' w' hk ht' hs' hm hd' => ⟨T', H', hk, ht', hs', ?_⟩) ops.toList 0 rfl T H a w ht hs rfl hd h
      rw [hd', defersOf, defersOf, hm]
  | .loop _, _, _, _, _, h => h
  | .rangeFunc _ _ _ _, _, _, _, _, h => h
  | .scope _, _, _, _, _, h => h
  | .goto _, _, _, _, _, h => h
  | .refuse _, _, _, _, _, h => h.elim
end

/-- a region at which the reckoning was stopped -/
theorem regV {P : Program} {G : Gam} (hG : GamOk P G) {r : Option Nat} {n : Nat} {id : Nat} {ops : Array Oper} {K : Exit → Tm → Hp → Prop} {T : Tm} {H : Hp} (h : evOps P G n ops.toList (K .normal) ops.toList T H) : WpV P r n (.region id ops false) K T H := by
  intro w0 mu a w hr ht hs hd
  refine wpIn_region ?_
  rw [List.range_eq_range', ← Array.length_toList]
  refine evOps_ok hG (K := K .normal) (M := marksOf H) (D := defersOf H) (fun T' H' a' w' hk ht' hs' hm hd' => ⟨T', H', hk, ht', hs', ?_⟩) ops.toList 0 rfl T H a w ht hs rfl hd h
  rw [hd', defersOf, defersOf, hm]

/-- **A function's contract, from what its body is reckoned to.** -/
theorem callsV_of_body {P : Program} {G : Gam} (hG : GamOk P G) (hmix : P.follows .mixedOrders = true) (pl : Plans) {g : FuncId} {fn : Func} {c : Code} {n : Nat} {rs : List ResultVar} {args : List Value} {H : Hp} {K : Value → Hp → Prop} (hf : P.funcs[g]? = some fn) (hb : fn.body = some c) (hn : fn.ntmps = n) (hrs : fn.results = rs.toArray)
    (hname : (fn.name == "runtime.NumGoroutine") = false) (hm : marksOf H = []) (hlen : args.length ≤ n) (hpl : plansOk pl c = true) (h : evC P G pl none n c (retK P rs K) (initT 0 args) H) : CallsV P g args H K := by
  refine ⟨fun as w => ?_, fun w0 mu w hs => ?_⟩
  · have hname' : ¬ fn.name = "runtime.NumGoroutine" := by simpa using hname
    simp [callFunc, hf, hname', hb]
  · refine callsIn_of_wp_marks hf hb trivial ?_
    subst hn
    obtain rfl : rs = fn.results.toList := by rw [hrs]
    have ht : TRel fn.ntmps (initT 0 args) { tmps := args.toArray ++ Array.replicate (fn.ntmps - args.toArray.size) undef, defers := [] } := by
      refine ⟨by simp; omega, fun k v hk => ?_⟩
      obtain ⟨_, h2⟩ := getT_initT args 0 k v hk
      have hlt := (List.getElem?_eq_some_iff.1 h2).1
      rw [Array.getElem?_append_left (by simpa using hlt)]
      simpa using h2
    refine wpIn_mono (evC_ok hG hmix c _ _ H hpl h w0 mu _ w (RoundOk.none_ _ _) ht hs (by simp [defersOf, hm])) ?_
    rintro e a' w' ⟨T', H', hk, ht', hs', hd'⟩
    have fin : (match optL (fn.results.toList.map (resV P T' (dropM H'))) with
      | some vs => ∃ H'', H''.Sublist (dropM H') ∧ K (resOf vs) H''
      | none => False) → LeavesInM (Fr none) 0 P fn a'.tmps (fun e w' => ∃ v H', e = .returned v ∧ K v H' ∧ Sat w0 mu H' w' ∧ marksOf H' = marksOf H) a'.defers .returning w' := by
      intro hk
      split at hk
      case h_2 => exact hk.elim
      rename_i vs hvs
      obtain ⟨H'', hsub, hK⟩ := hk
      rw [hd']
      refine leaves_marks _ H' w' rfl hs' fun w'' hs'' => ⟨resOf vs, run_results ht' hs'' hvs, resOf vs, H'', rfl, hK, hs''.weak hsub, ?_⟩
      rw [hm]
      exact marks_sub hsub (marks_dropM H')
    cases e with
    | normal => exact fin hk
    | ret => exact fin hk
    | _ => exact hk.elim

theorem least {S : Nat → Prop} (h : ∃ k, S k) : ∃ k, S k ∧ ∀ j, S j → k ≤ j := by
  obtain ⟨k, hk⟩ := h
  induction k using Nat.strongRecOn with
  | _ k ih =>
    by_cases hj : ∃ j, j < k ∧ S j
    · obtain ⟨j, hlt, hs⟩ := hj; exact ih j hlt hs
    · refine ⟨k, hk, fun j hs => ?_⟩
      rcases Nat.lt_or_ge j k with hlt | hge
      · exact absurd ⟨j, hlt, hs⟩ hj
      · exact hge

theorem loopV {P : Program} {G : Gam} (hG : GamOk P G) (hmix : P.follows .mixedOrders = true) {pl : Plans} {r : Option Nat} {n : Nat} {c : Code} {K : Exit → Tm → Hp → Prop} {T : Tm} {H : Hp} {X : Type} (f : X → Tm × Hp) (ok : X → Prop) (μ : X → Nat) (x0 : X) (h0 : ok x0) (hsub : SubS T H (f x0))
    (hpl : plansOk pl c = true) (round : ∀ x, ok x → evC P G pl r n c (thenK (fun T' H' => ∃ x', ok x' ∧ μ x' < μ x ∧ SubS T' H' (f x')) K) (f x).1 (f x).2) : WpV P r n (.loop c) K T H := by
  refine WpV.sub hsub ?_
  intro w0 mu a w hr ht hs hd
  let R : X → Act → World → Prop := fun x a w => ok x ∧ TRel n (f x).1 a ∧ Sat w0 mu (f x).2 w ∧ a.defers = defersOf (f x).2
  have hr0 : R x0 a w := ⟨h0, ht, hs, hd⟩
  let S : Act → World → Nat → Prop := fun a w k => ∃ x, R x a w ∧ μ x = k
  refine wpIn_loop (fun a w => ∃ k, S a w k) (fun a w => @dite Nat (∃ k, S a w k) (Classical.propDecidable _) (fun h => Classical.choose (least h)) (fun _ => 0)) ⟨_, x0, hr0, rfl⟩ ?_
  intro a w hex
  rw [dif_pos hex]
  obtain ⟨⟨x, ⟨hok, ht, hs, hd⟩, hμ⟩, _⟩ := Classical.choose_spec (least hex)
  refine wpIn_mono (evC_ok hG hmix c _ _ _ hpl (round x hok) w0 mu a w hr ht hs hd) ?_
  rintro e a' w' ⟨T', H', hk, ht', hs', hd'⟩
  cases e with
  | normal =>
    obtain ⟨x', hok', hlt, hsub'⟩ := hk
    have hr' : S a' w' (μ x') := ⟨x', ⟨hok', ht'.sub hsub'.1, hs'.sub hsub'.2.1, by rw [hd', defersOf, defersOf, hsub'.2.2]⟩, rfl⟩
    refine ⟨⟨_, hr'⟩, ?_⟩
    rw [dif_pos ⟨_, hr'⟩, ← hμ]
    exact Nat.lt_of_le_of_lt ((Classical.choose_spec (least ⟨_, hr'⟩)).2 _ hr') hlt
  | _ => exact ⟨T', H', hk, ht', hs', hd'⟩

/-- a loop, some rounds long -/
def evUn (P : Program) (G : Gam) (pl : Plans) (r : Option Nat) (n : Nat) (c : Code) (K : Exit → Tm → Hp → Prop) : Nat → Tm → Hp → Prop
  | 0, _, _ => False
  | m + 1, T, H => evC P G pl r n c (thenK (evUn P G pl r n c K m) K) T H

theorem unrollV {P : Program} {G : Gam} (hG : GamOk P G) (hmix : P.follows .mixedOrders = true) {pl : Plans} {r : Option Nat} {n : Nat} {c : Code} {K : Exit → Tm → Hp → Prop} {T : Tm} {H : Hp} (m : Nat) (hpl : plansOk pl c = true)
    (h : evUn P G pl r n c K m T H) : WpV P r n (.loop c) K T H := by
  intro w0 mu a w hr ht hs hd
  let S : Act → World → Nat → Prop := fun a w k => ∃ T H, evUn P G pl r n c K k T H ∧ TRel n T a ∧ Sat w0 mu H w ∧ a.defers = defersOf H
  refine wpIn_loop (fun a w => ∃ k, S a w k) (fun a w => @dite Nat (∃ k, S a w k) (Classical.propDecidable _) (fun h => Classical.choose (least h)) (fun _ => 0)) ⟨m, T, H, h, ht, hs, hd⟩ ?_
  intro a w hex
  rw [dif_pos hex]
  obtain ⟨⟨T, H, hev, ht, hs, hd⟩, _⟩ := Classical.choose_spec (least hex)
  generalize Classical.choose (least hex) = k at hev ⊢
  cases k with
  | zero => exact hev.elim
  | succ k =>
    refine wpIn_mono (evC_ok hG hmix c _ _ _ hpl hev w0 mu a w hr ht hs hd) ?_
    rintro e a' w' ⟨T', H', hk, ht', hs', hd'⟩
    cases e with
    | normal =>
      have hr' : S a' w' k := ⟨T', H', hk, ht', hs', hd'⟩
      refine ⟨⟨_, hr'⟩, ?_⟩
      rw [dif_pos ⟨_, hr'⟩]
      exact Nat.lt_succ_of_le ((Classical.choose_spec (least ⟨_, hr'⟩)).2 _ hr')
    | _ => exact ⟨T', H', hk, ht', hs', hd'⟩
end Go.Ev
