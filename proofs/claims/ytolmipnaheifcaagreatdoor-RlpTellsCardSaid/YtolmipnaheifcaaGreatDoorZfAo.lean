/- Texts of this claim, merged by program: EvAD. -/
import Derived.Test.YtolmipnaheifcaaGreatDoorZfAm
set_option linter.unusedSimpArgs false
set_option linter.unusedVariables false
namespace Go.Ev
open Go.RowKit
def backG (ops : Array Oper) : Bool := (List.range ops.size).all fun i => match ops[i]? with
  | some o => o.after.all (fun e => !Region.binds .any e || decide (e.on < i))
  | none => true
theorem backG_spec {ops : Array Oper} (h : backG ops = true) {i : Nat} {o : Oper} (ho : ops[i]? = some o) : ∀ e ∈ o.after, Region.binds .any e = true → e.on < i := by
  have hi := (Array.getElem?_eq_some_iff.1 ho).1
  have := List.all_eq_true.1 h i (List.mem_range.2 hi)
  rw [ho] at this
  dsimp only at this
  intro e he hb
  have h2 := Array.all_eq_true_iff_forall_mem.1 this e he
  rw [hb] at h2
  simpa using h2
theorem drawIg {P : Program} {r : Option Nat} {n : Nat} {G : Gam} (hG : GamOk P G) (hmix : P.follows .mixedOrders = true) {id : Nat} {ops : Array Oper} {K : Exit → Tm → Hp → Prop} {T : Tm} {H : Hp} (inv : (Nat → Bool) → Tm → Hp → Prop) (hb : backG ops = true) (h0 : inv (fun _ => false) T H)
    (step : ∀ (l : Nat → Bool) (T' : Tm) (H' : Hp) (i : Nat) (o : Oper), ApartE H' → inv l T' H' → ops[i]? = some o → l i = false → (∀ e ∈ o.after, Region.binds .any e = true → l e.on = true) → ∃ (H0 : Hp) (Kp : Value → Hp → Prop), H'.Perm H0 ∧ marksOf H0 = marksOf H' ∧ evOp P G T' H0 o.op Kp ∧ ∀ v H'', Kp v H'' → inv (fun j => j == i || l j) (putT n T' o.dst v) H'')
    (hgd : ∀ (l : Nat → Bool) (T' : Tm) (H' : Hp) (i : Nat) (o : Oper), inv l T' H' → ops[i]? = some o → (∀ e ∈ o.after, Region.binds .any e = true → l e.on = true) → gd ops.toList T' o.guard True False)
    (fin : ∀ (l : Nat → Bool) (T' : Tm) (H' : Hp), (∀ i, i < ops.size → l i = true) → ApartE H' → inv l T' H' → ∃ H0 T0, H'.Perm H0 ∧ marksOf H0 = marksOf H' ∧ subT T' T0 ∧ K .normal T0 H0) : WpV P r n (.region id ops true) K T H := by
  intro w0 mu a w hr ht hs hd
  have finw : ∀ (l : Nat → Bool) (T' : Tm) (H' : Hp) (a' : Act) (w' : World), (∀ i, i < ops.size → l i = true) → TRel n T' a' → Sat w0 mu H' w' → marksOf H' = marksOf H → a'.defers = defersOf H → inv l T' H' → ∃ T H', K .normal T H' ∧ TRel n T a' ∧ Sat w0 mu H' w' ∧ a'.defers = defersOf H' := by
    intro l T' H' a' w' hall ht' hs' hm' hd' hi'
    obtain ⟨H0, T0, h1, h2, h3, h4⟩ := fin l T' H' hall hs'.apart hi'
    exact ⟨T0, H0, h4, ht'.sub h3, hs'.perm h1, by rw [hd', defersOf, defersOf, h2, hm']⟩
  have key : ∀ (f : Nat) (listed : Array Bool) (l : Nat → Bool) (T' : Tm) (H' : Hp) (a' : Act) (w' : World), listed.size = ops.size → (∀ j, j < ops.size → listed[j]? = some (l j)) → ((List.range ops.size).filter fun j => !l j).length ≤ f → TRel n T' a' → Sat w0 mu H' w' → marksOf H' = marksOf H → a'.defers = defersOf H → inv l T' H' →
      wpAnyIn (Fr r) 0 P .any ops (fun e a w => e = .normal ∧ ∃ T H', K .normal T H' ∧ TRel n T a ∧ Sat w0 mu H' w ∧ a.defers = defersOf H') f listed a' w' := by
    have done : ∀ (listed : Array Bool) (l : Nat → Bool), listed.size = ops.size → (∀ j, j < ops.size → listed[j]? = some (l j)) → Region.ready .any ops listed = [] → ∀ i, i < ops.size → l i = true := by
      intro listed l hsz hl hrd i
      induction i using Nat.strongRecOn with
      | _ i ih =>
        intro hi
        cases hli : l i with
        | true => rfl
        | false =>
          have ho : ops[i]? = some ops[i] := Array.getElem?_eq_getElem hi
          have hmem : i ∈ Region.ready .any ops listed := by
            rw [mem_ready]
            refine ⟨by rw [Array.getD_eq_getD_getElem?, hl i hi, hli]; rfl, _, ho, fun e he hbb => ?_⟩
            have hlt := backG_spec hb ho e he hbb
            rw [Array.getD_eq_getD_getElem?, hl e.on (by omega), ih e.on hlt (by omega)]; rfl
          rw [hrd] at hmem; cases hmem
    intro f
    induction f with
    | zero =>
      intro listed l T' H' a' w' hsz hl hn ht' hs' hm' hd' hi'
      have hall : ∀ i, i < ops.size → l i = true := fun i hi => by
        cases hli : l i with
        | true => rfl
        | false =>
          have : i ∈ (List.range ops.size).filter fun j => !l j := List.mem_filter.2 ⟨List.mem_range.2 hi, by simp [hli]⟩
          rw [List.length_eq_zero_iff.1 (Nat.le_zero.1 hn)] at this; cases this
      refine ⟨?_, rfl, finw l T' H' a' w' hall ht' hs' hm' hd' hi'⟩
      rw [List.eq_nil_iff_forall_not_mem]
      intro i hmem
      obtain ⟨h1, o, ho, _⟩ := mem_ready.1 hmem
      have hi := (Array.getElem?_eq_some_iff.1 ho).1
      rw [Array.getD_eq_getD_getElem?, hl i hi, hall i hi] at h1
      cases h1
    | succ f ih =>
      intro listed l T' H' a' w' hsz hl hn ht' hs' hm' hd' hi'
      refine ⟨fun h => ⟨rfl, finw l T' H' a' w' (done listed l hsz hl h) ht' hs' hm' hd' hi'⟩, fun i hmem => ?_⟩
      obtain ⟨h1, o, ho, hdeps⟩ := mem_ready.1 hmem
      have hi := (Array.getElem?_eq_some_iff.1 ho).1
      have hli : l i = false := by rw [Array.getD_eq_getD_getElem?, hl i hi] at h1; exact h1
      have hlt := backG_spec hb ho
      have hdeps' : ∀ e ∈ o.after, Region.binds .any e = true → l e.on = true := fun e he hbb => by
        have := hdeps e he hbb
        rw [Array.getD_eq_getD_getElem?, hl e.on (by have := hlt e he hbb; omega)] at this
        exact this
      obtain ⟨H0, Kp, hp0, hm0, hst, hkp⟩ := step l T' H' i o hs'.apart hi' ho hli hdeps'
      have hw : Region.wanted o (yielded ops a'.tmps) = true := by
        rcases gd_ok (ops := ops) (o := o) (A := True) (B := False) ht' (hgd l T' H' i o hi' ho hdeps') with ⟨h, _⟩ | ⟨_, h⟩
        · exact h
        · exact h.elim
      unfold wpOpIn
      rw [ho]
      dsimp only
      rw [if_pos hw]
      refine evOp_ok hG ht' (hs'.perm hp0) hst ?_
      intro v H'' w'' hi3 hs'' hm''
      replace hi3 := hkp v H'' hi3
      refine ih _ (fun j => j == i || l j) _ H'' _ w'' (by simpa using hsz) (fun j hj => ?_) ?_ (ht'.put o.dst v) hs'' (hm''.trans (hm0.trans hm')) ?_ hi3
      · rw [Array.getElem?_setIfInBounds]
        by_cases hji : i = j
        · subst hji; rw [if_pos rfl, if_pos (by omega)]; simp
        · rw [if_neg hji, hl j hj]; simp [Ne.symm hji]
      · have : ((List.range ops.size).filter fun j => !(j == i || l j)).length < ((List.range ops.size).filter fun j => !l j).length := by
          have hsl : ((List.range ops.size).filter fun j => !(j == i || l j)) = ((List.range ops.size).filter fun j => !l j).filter fun j => !(j == i) := by
            rw [List.filter_filter]
            congr 1
            funext j
            simp
          rw [hsl]
          refine List.length_filter_lt_length_iff_exists.2 ⟨i, List.mem_filter.2 ⟨List.mem_range.2 hi, by simp [hli]⟩, by simp⟩
        omega
      · cases o.dst <;> exact hd'
  have hA := key ops.size (Array.replicate ops.size false) (fun _ => false) T H a _ (by simp) (fun j hj => by simp [hj]) (Nat.le_trans (List.length_filter_le _ _) (by simp)) ht hs.drew rfl hd h0
  refine wpIn_mono (wpIn_region_any hmix hA) ?_
  rintro e a' w' ⟨rfl, T', H', hk⟩
  exact ⟨T', H', hk⟩
theorem drawSg {P : Program} {r : Option Nat} {n : Nat} {G : Gam} (hG : GamOk P G) (hmix : P.follows .mixedOrders = true) {id : Nat} {ops : Array Oper} {K : Exit → Tm → Hp → Prop} {T : Tm} {X : Hp} (Tb : Tm) (V : Nat → (Nat → Value) → Prop) (Q : Nat → (Nat → Value) → Hp → Prop) (used : Nat → List Nat) (F : List Nat)
    (hb : backG ops = true) (hgv : ∀ (i : Nat) (o : Oper) (g : Nat) (b : Bool), ops[i]? = some o → o.guard = some (g, b) → (∃ e ∈ o.after, Region.binds .any e = true ∧ e.on = g) ∧ ∃ p s, ops[g]? = some p ∧ p.dst = some s ∧ ∀ val, V g val → val g = .bool b) (hd : dstB n ops = true) (hu : usedB ops used = true) (hTb : subT T Tb) (hTd : (Tb.all fun x => !(ops.toList.filterMap (·.dst)).contains x.1) = true)
    (hF : F.Nodup) (hFs : (F.all fun i => decide (i < ops.size) && freeB ops used i) = true) (hFn : ∀ i, i < ops.size → i ∉ F → (∀ val N, Q i val N → N = []) ∨ freeB ops used i = false)
    (stabV : ∀ i o, ops[i]? = some o → ∀ val val' : Nat → Value, val' i = val i → (∀ j, (o.after.any fun e => Region.binds .any e && e.on == j) = true → val' j = val j) → V i val → V i val')
    (stabQ : ∀ i o, ops[i]? = some o → ∀ (val val' : Nat → Value) (N : Hp), val' i = val i → (∀ j, (o.after.any fun e => Region.binds .any e && e.on == j) = true → val' j = val j) → Q i val N → Q i val' N)
    (hop : ∀ (i : Nat) (o : Oper), ops[i]? = some o → ∀ (T' : Tm) (Y : Hp) (val : Nat → Value) (mem : Nat → Hp), subT T' Tb → (∀ j, (o.after.any fun e => Region.binds .any e && e.on == j) = true → V j val ∧ ∀ s, (ops[j]?).bind (·.dst) = some s → getT T' s = some (val j)) → (∀ j ∈ used i, Q j val (mem j)) →
      freshN ((used i).flatMap mem) Y → (∀ b e, findE X b = some e → findE Y b = some e) → marksOf Y = marksOf X → ApartE ((used i).flatMap mem ++ Y) → evOp P G T' ((used i).flatMap mem ++ Y) o.op (fun v H'' => ∃ N, H'' = N ++ Y ∧ allWr N ∧ marksOf N = [] ∧ V i (upd val i v) ∧ Q i (upd val i v) N))
    (fin : ∀ (val : Nat → Value) (mem : Nat → Hp), (∀ i, i < ops.size → V i val) → (∀ i ∈ F, Q i val (mem i)) → ApartE (F.flatMap mem ++ X) → allWr (F.flatMap mem) → K .normal (dstsL val Tb ops.toList 0) (F.flatMap mem ++ X)) : WpV P r n (.region id ops true) K T X := by
  have husd : ∀ {i : Nat}, i < ops.size → (used i).Nodup ∧ ∀ j ∈ used i, j < i ∧ (∃ o, ops[i]? = some o ∧ ∃ e ∈ o.after, Region.binds .any e = true ∧ e.on = j) ∧ ∀ k, k < ops.size → k ≠ i → j ∉ used k := by
    intro i hi
    have := List.all_eq_true.1 hu i (List.mem_range.2 hi)
    simp only [Bool.and_eq_true, decide_eq_true_eq, List.all_eq_true] at this
    refine ⟨this.1, fun j hj => ?_⟩
    obtain ⟨⟨h1, h2⟩, h3⟩ := this.2 j hj
    refine ⟨h1, ?_, fun k hk hki hmem => ?_⟩
    · cases ho : ops[i]? with
      | none => rw [ho] at h2; cases h2
      | some o =>
        rw [ho] at h2
        obtain ⟨e, he, heb⟩ := Array.any_eq_true'.1 h2
        simp only [Bool.and_eq_true, beq_iff_eq] at heb
        exact ⟨o, rfl, e, he, heb.1, heb.2⟩
    · have := h3 k (List.mem_range.2 hk)
      simp [hki, hmem] at this
  have hbase : ∀ {T' : Tm}, (∀ k v, (k, v) ∈ Tb → getT T' k = some v) → subT T' Tb := fun h => subT_of h
  have hbase' : ∀ {T' : Tm}, subT T' Tb → ∀ k v, (k, v) ∈ Tb → getT T' k = some v := fun h k v hm => subT_mem h hm
  refine drawIg hG hmix (fun l T' H' => ∃ (val : Nat → Value) (mem : Nat → Hp) (ord : List Nat), ord.Nodup ∧ (∀ i ∈ ord, l i = true ∧ i < ops.size) ∧ (∀ i, l i = true → i < ops.size → i ∉ ord → ∃ j, j < ops.size ∧ l j = true ∧ i ∈ used j) ∧ (∀ i ∈ ord, ∀ j, j < ops.size → l j = true → i ∉ used j) ∧ H' = ord.flatMap mem ++ X ∧ (∀ i ∈ ord, allWr (mem i) ∧ marksOf (mem i) = []) ∧
    (∀ i o, ops[i]? = some o → l i = true → (∀ e ∈ o.after, Region.binds .any e = true → l e.on = true) ∧ V i val ∧ (i ∈ ord → Q i val (mem i)) ∧ ∀ s, o.dst = some s → getT T' s = some (val i)) ∧ subT T' Tb) hb ?_ ?_ ?_ ?_
  · exact ⟨fun _ => undef, fun _ => [], [], List.nodup_nil, by simp, by simp, by simp, rfl, by simp, by simp, hTb⟩
  · rintro l T' H' i o hap ⟨val, mem, ord, h1, h2, h3, h4, rfl, h6, h7, h8⟩ ho hli hdeps
    have hi := (Array.getElem?_eq_some_iff.1 ho).1
    obtain ⟨hun, hus⟩ := husd hi
    have hin : ∀ j ∈ used i, j ∈ ord := fun j hj => by
      obtain ⟨hji, ⟨o', ho', e, he, heb, rfl⟩, hk⟩ := hus j hj
      obtain rfl : o = o' := Option.some.inj (ho.symm.trans ho')
      have hlj := hdeps e he heb
      rcases Classical.em (e.on ∈ ord) with h | h
      · exact h
      · obtain ⟨k, hk1, hk2, hk3⟩ := h3 e.on hlj (by omega) h
        by_cases hki : k = i
        · rw [hki, hli] at hk2; cases hk2
        · exact absurd hk3 (hk k hk1 hki)
    obtain ⟨rest, hperm⟩ : ∃ rest, ord.Perm (used i ++ rest) := ⟨_, perm_part h1 hun hin⟩
    have hnd : (used i ++ rest).Nodup := hperm.nodup_iff.1 h1
    have hnr : rest.Nodup := (List.nodup_append.1 hnd).2.1
    have hio : i ∉ ord := fun h => by rw [(h2 i h).1] at hli; cases hli
    have hir : i ∉ rest := fun h => hio (hperm.mem_iff.2 (List.mem_append_right _ h))
    have hpm : (ord.flatMap mem ++ X).Perm ((used i).flatMap mem ++ (rest.flatMap mem ++ X)) := by
      rw [← List.append_assoc, ← List.flatMap_append]
      exact (hperm.flatMap_right mem).append_right X
    have hm1 : marksOf (ord.flatMap mem) = [] := marks_flat fun j hj => (h6 j hj).2
    have hm2 : marksOf ((used i).flatMap mem) = [] := marks_flat fun j hj => (h6 j (hin j hj)).2
    have hro : ∀ j ∈ rest, j ∈ ord := fun j hj => hperm.mem_iff.2 (List.mem_append_right _ hj)
    have hm3 : marksOf (rest.flatMap mem) = [] := marks_flat fun j hj => (h6 j (hro j hj)).2
    have hap' : ApartE ((used i).flatMap mem ++ (rest.flatMap mem ++ X)) := (hpm.pairwise_iff (fun {x y} hxy hw => (hxy hw.symm).symm)).1 hap
    have hwr : ∀ {L : List Nat}, (∀ j ∈ L, j ∈ ord) → allWr (L.flatMap mem) := fun {L} hL => allWr_of fun e he => by
      obtain ⟨j, hj, hej⟩ := List.mem_flatMap.1 he
      exact allWr_mem (h6 j (hL j hj)).1 e hej
    have hap2 : ApartE (rest.flatMap mem ++ X) := (List.pairwise_append.1 hap').2.1
    refine ⟨_, _, hpm, by simp only [marks_append, hm1, hm2, hm3, List.nil_append], hop i o ho T' (rest.flatMap mem ++ X) val mem h8 (fun j hj => ?_) (fun j hj => ?_) (freshN_apart hap' (hwr hin)) (fun b e hbe => ?_) (by rw [marks_append, hm3]; rfl) hap', ?_⟩
    · obtain ⟨e, he, heb⟩ := Array.any_eq_true'.1 hj
      simp only [Bool.and_eq_true, beq_iff_eq] at heb
      obtain ⟨hbb, rfl⟩ := heb
      have hlt := backG_spec hb ho e he hbb
      have hp : ops[e.on]? = some ops[e.on] := Array.getElem?_eq_getElem (by omega)
      obtain ⟨_, g1, _, g2⟩ := h7 e.on _ hp (hdeps e he hbb)
      exact ⟨g1, fun s hs => g2 s (by rw [hp] at hs; exact hs)⟩
    · have hj2 := h2 j (hin j hj)
      exact (h7 j _ (Array.getElem?_eq_getElem hj2.2) hj2.1).2.2.1 (hin j hj)
    · rw [findE_freshN (freshN_apart hap2 (hwr hro)) hbe]; exact hbe
    · rintro v H'' ⟨N, rfl, hN1, hN2, hV, hQ⟩
      have hl' : ∀ j, l j = true → (j == i || l j) = true := fun j hj => by rw [hj, Bool.or_true]
      have hni : ∀ j, l j = true → j ≠ i := fun j hj h => by rw [h, hli] at hj; cases hj
      have hlr : ∀ j ∈ rest, l j = true := fun j hj => (h2 j (hro j hj)).1
      refine ⟨upd val i v, upd mem i N, i :: rest, List.nodup_cons.2 ⟨hir, hnr⟩, ?_, ?_, ?_, ?_, ?_, ?_, ?_⟩
      · intro j hj
        rcases List.mem_cons.1 hj with rfl | hj
        · exact ⟨by simp, hi⟩
        · exact ⟨hl' j (hlr j hj), (h2 j (hro j hj)).2⟩
      · intro j hj hjs hjo
        have hji : j ≠ i := fun h => hjo (h ▸ List.mem_cons_self ..)
        have hjl : l j = true := by simpa [hji] using hj
        rcases Classical.em (j ∈ ord) with h | h
        · rcases List.mem_append.1 (hperm.mem_iff.1 h) with h | h
          · exact ⟨i, hi, by simp, h⟩
          · exact absurd (List.mem_cons_of_mem _ h) hjo
        · obtain ⟨k, k1, k2, k3⟩ := h3 j hjl hjs h
          exact ⟨k, k1, hl' k k2, k3⟩
      · intro j hj k hk hkl hjk
        rcases List.mem_cons.1 hj with rfl | hjr
        · obtain ⟨hk1, ⟨o', ho', e, he, heb, hej⟩, -⟩ := (husd hk).2 j hjk
          have hkj : k ≠ j := by omega
          have hkl' : l k = true := by simpa [hkj] using hkl
          have := (h7 k o' ho' hkl').1 e he heb
          rw [hej, hli] at this; cases this
        · by_cases hki : k = i
          · subst hki
            exact (List.nodup_append.1 hnd).2.2 j hjk j hjr rfl
          · exact h4 j (hro j hjr) k hk (by simpa [hki] using hkl) hjk
      · rw [List.flatMap_cons, upd_self, flat_upd hir, List.append_assoc]
      · intro j hj
        rcases List.mem_cons.1 hj with rfl | hj
        · rw [upd_self]; exact ⟨hN1, hN2⟩
        · rw [upd_ne (hni j (hlr j hj))]; exact h6 j (hro j hj)
      · intro j p hp hj
        by_cases hji : j = i
        · subst hji
          obtain rfl : o = p := Option.some.inj (ho.symm.trans hp)
          refine ⟨fun e he hbb => hl' _ (hdeps e he hbb), hV, fun _ => by rw [upd_self]; exact hQ, fun s hs => ?_⟩
          rw [hs, getT_put (dstB_spec hd ho hs).1, if_pos rfl, upd_self]
        · have hjl : l j = true := by simpa [hji] using hj
          obtain ⟨g1, g2, g3, g4⟩ := h7 j p hp hjl
          have hv : upd val i v j = val j := upd_ne hji
          have hve : ∀ k, (p.after.any fun e => Region.binds .any e && e.on == k) = true → upd val i v k = val k := fun k hk => by
            obtain ⟨e, he, heb⟩ := Array.any_eq_true'.1 hk
            simp only [Bool.and_eq_true, beq_iff_eq] at heb
            obtain ⟨hbb, rfl⟩ := heb
            exact upd_ne (hni _ (g1 e he hbb))
          refine ⟨fun e he hbb => hl' _ (g1 e he hbb), stabV j p hp val _ hv hve g2, fun hjo => ?_, fun s hs => ?_⟩
          · have hjr : j ∈ rest := (List.mem_cons.1 hjo).resolve_left hji
            rw [upd_ne hji]
            exact stabQ j p hp val _ _ hv hve (g3 (hro j hjr))
          · rw [hv]
            cases hod : o.dst with
            | none => exact g4 s hs
            | some s' =>
              rw [getT_put (dstB_spec hd ho hod).1, if_neg (fun hss => hji ((dstB_spec hd hp hs).2 i o ho (by rw [hod, hss])))]
              exact g4 s hs
      · refine hbase fun k u hm => ?_
        have h9 := hbase' h8 k u hm
        cases hod : o.dst with
        | none => exact h9
        | some s' =>
          rw [getT_put (dstB_spec hd ho hod).1, if_neg (fun hks => ?_)]
          · exact h9
          · have := List.all_eq_true.1 hTd (k, u) hm
            simp only [Bool.not_eq_true', List.contains_eq_mem, decide_eq_false_iff_not] at this
            exact this (List.mem_filterMap.2 ⟨o, List.mem_of_getElem? (by simpa using ho), by rw [hod, hks]⟩)
  · rintro l T' H' i o ⟨val, mem, ord, h1, h2, h3, h4, rfl, h6, h7, h8⟩ ho hdeps
    cases hg : o.guard with
    | none => exact trivial
    | some x =>
      obtain ⟨g, b⟩ := x
      obtain ⟨⟨e, he, hbb, rfl⟩, p, s, hp, hps, hval⟩ := hgv i o _ b ho hg
      obtain ⟨_, hV, _, hT⟩ := h7 e.on p hp (hdeps e he hbb)
      have hs := hT s hps
      rw [hval val hV] at hs
      have hp' : ops.toList[e.on]? = some p := by simpa using hp
      unfold gd
      simp only [hp', hps, hs]
      cases b <;> simp
  · rintro l T' H' hall hap ⟨val, mem, ord, h1, h2, h3, h4, rfl, h6, h7, h8⟩
    have hFs' : ∀ i ∈ F, i < ops.size ∧ freeB ops used i = true := fun i hi => by
      have := List.all_eq_true.1 hFs i hi
      simpa using this
    have hFo : ∀ i ∈ F, i ∈ ord := fun i hi => by
      obtain ⟨k1, k2⟩ := hFs' i hi
      rcases Classical.em (i ∈ ord) with h | h
      · exact h
      · obtain ⟨k, k3, k4, k5⟩ := h3 i (hall i k1) k1 h
        have := List.all_eq_true.1 k2 k (List.mem_range.2 k3)
        simp [k5] at this
    have hperm := perm_part h1 hF hFo
    have hnil : (ord.filter fun x => !F.contains x).flatMap mem = [] := by
      rw [List.flatMap_eq_nil_iff]
      intro i hi
      obtain ⟨hio, hiF⟩ := List.mem_filter.1 hi
      have hiF' : i ∉ F := by simpa using hiF
      have hsz := (h2 i hio).2
      rcases hFn i hsz hiF' with h | h
      · exact h val _ ((h7 i _ (Array.getElem?_eq_getElem hsz) (hall i hsz)).2.2.1 hio)
      · have : freeB ops used i = true := List.all_eq_true.2 fun k hk => by
          have := h4 i hio k (List.mem_range.1 hk) (hall k (List.mem_range.1 hk))
          simpa using this
        rw [this] at h; cases h
    have hpm : (ord.flatMap mem ++ X).Perm (F.flatMap mem ++ X) := by
      have := (hperm.flatMap_right mem).append_right X
      rw [List.flatMap_append, hnil, List.append_nil] at this
      exact this
    have hm1 : marksOf (ord.flatMap mem) = [] := marks_flat fun j hj => (h6 j hj).2
    have hm2 : marksOf (F.flatMap mem) = [] := marks_flat fun j hj => (h6 j (hFo j hj)).2
    refine ⟨_, _, hpm, by simp only [marks_append, hm1, hm2], ?_, fin val mem (fun i hi => (h7 i _ (Array.getElem?_eq_getElem hi) (hall i hi)).2.1) (fun i hi => (h7 i _ (Array.getElem?_eq_getElem (hFs' i hi).1) (hall i (hFs' i hi).1)).2.2.1 (hFo i hi)) ((hpm.pairwise_iff (fun {x y} hxy hw => (hxy hw.symm).symm)).1 hap) (allWr_of fun e he => ?_)⟩
    · refine subT_of fun k u hm => ?_
      rcases dstsL_mem hm with hm | ⟨j, o, hj, hs, rfl⟩
      · exact hbase' h8 k u hm
      · have ho : ops[j]? = some o := by simpa using hj
        have hi := (Array.getElem?_eq_some_iff.1 ho).1
        rw [Nat.zero_add]
        exact (h7 j o ho (hall j hi)).2.2.2 k hs
    · obtain ⟨j, hj, hej⟩ := List.mem_flatMap.1 he
      exact allWr_mem (h6 j (hFo j hj)).1 e hej
end Go.Ev
