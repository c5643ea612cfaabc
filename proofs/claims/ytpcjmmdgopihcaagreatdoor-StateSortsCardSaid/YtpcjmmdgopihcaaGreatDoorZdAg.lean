/- Texts of this claim, merged by program: EvT Aa Ab Ac Ad Ae Af Ag Ah. -/
import Derived.Test.YtpcjmmdgopihcaaGreatDoorZdAf
import Derived.Test.YtpcjmmdgopihcaaGreatDoorZdAe
set_option linter.unusedSimpArgs false
set_option linter.unusedVariables false
namespace Go.Ev
open Go.RowKit
theorem drawO {P : Program} {G : Gam} (hG : GamOk P G) (hmix : P.follows .mixedOrders = true) {r : Option Nat} {n : Nat} {id : Nat} {ops : Array Oper} {K : Exit → Tm → Hp → Prop} {T : Tm} {H : Hp} (s : List (Nat × Nat)) (hp : (planS ops s || planOk ops s) = true) (h : oD P G n ops.toList (K .normal) s T H) : WpV P r n (.region id ops true) K T H :=
  drawV hG hmix _ (((Bool.or_eq_true _ _).mp hp).elim planS_ok fun hh => hh) (by rw [oD_eq] at h; exact h)
def backB (ops : Array Oper) : Bool := (List.range ops.size).all fun i => match ops[i]? with
  | some o => o.guard.isNone && o.after.all (fun e => !Region.binds .any e || decide (e.on < i))
  | none => true
theorem backB_spec {ops : Array Oper} (h : backB ops = true) {i : Nat} {o : Oper} (ho : ops[i]? = some o) : o.guard = none ∧ ∀ e ∈ o.after, Region.binds .any e = true → e.on < i := by
  have hi := (Array.getElem?_eq_some_iff.1 ho).1
  have := List.all_eq_true.1 h i (List.mem_range.2 hi)
  rw [ho] at this
  simp only [Bool.and_eq_true] at this
  refine ⟨by simpa using this.1, fun e he hb => ?_⟩
  have h2 := Array.all_eq_true_iff_forall_mem.1 this.2 e he
  rw [hb] at h2
  simpa using h2
def ApartE (H : Hp) : Prop := H.Pairwise fun e f => (e.wr ∨ f.wr) → e.blk ≠ f.blk
theorem drawI {P : Program} {r : Option Nat} {n : Nat} {G : Gam} (hG : GamOk P G) (hmix : P.follows .mixedOrders = true) {id : Nat} {ops : Array Oper} {K : Exit → Tm → Hp → Prop} {T : Tm} {H : Hp} (inv : (Nat → Bool) → Tm → Hp → Prop) (hb : backB ops = true) (h0 : inv (fun _ => false) T H)
    (step : ∀ (l : Nat → Bool) (T' : Tm) (H' : Hp) (i : Nat) (o : Oper), ApartE H' → inv l T' H' → ops[i]? = some o → l i = false → (∀ e ∈ o.after, Region.binds .any e = true → l e.on = true) → ∃ (H0 : Hp) (Kp : Value → Hp → Prop), H'.Perm H0 ∧ marksOf H0 = marksOf H' ∧ evOp P G T' H0 o.op Kp ∧ ∀ v H'', Kp v H'' → inv (fun j => j == i || l j) (putT n T' o.dst v) H'')
    (fin : ∀ (l : Nat → Bool) (T' : Tm) (H' : Hp), (∀ i, i < ops.size → l i = true) → ApartE H' → inv l T' H' → ∃ H0 T0, H'.Perm H0 ∧ marksOf H0 = marksOf H' ∧ subT T' T0 ∧ K .normal T0 H0) : WpV P r n (.region id ops true) K T H := by
  intro w0 mu a w hr ht hs hd
  have finw : ∀ (l : Nat → Bool) (T' : Tm) (H' : Hp) (a' : Act) (w' : World), (∀ i, i < ops.size → l i = true) → TRel n T' a' → Sat w0 mu H' w' → marksOf H' = marksOf H → a'.defers = defersOf H → inv l T' H' → ∃ T H', K .normal T H' ∧ TRel n T a' ∧ Sat w0 mu H' w' ∧ a'.defers = defersOf H' := by
    intro l T' H' a' w' hall ht' hs' hm' hd' hi'
    obtain ⟨H0, T0, h1, h2, h3, h4⟩ := fin l T' H' hall hs'.apart hi'
    exact ⟨T0, H0, h4, ht'.sub h3, hs'.perm h1, by rw [hd', defersOf, defersOf, h2, hm']⟩
  have key : ∀ (f : Nat) (listed : Array Bool) (l : Nat → Bool) (T' : Tm) (H' : Hp) (a' : Act) (w' : World), listed.size = ops.size → (∀ j, j < ops.size → listed[j]? = some (l j)) → ((List.range ops.size).filter fun j => !l j).length ≤ f → TRel n T' a' → Sat w0 mu H' w' → marksOf H' = marksOf H → a'.defers = defersOf H → inv l T' H' →
      wpAnyIn (Fr r) 0 P .any ops (fun e a w => e = .normal ∧ ∃ T H', K .normal T H' ∧ TRel n T a ∧ Sat w0 mu H' w ∧ a.defers = defersOf H') f listed a' w' := by
    have done : ∀ (listed : Array Bool) (l : Nat → Bool), listed.size = ops.size → (∀ j, j < ops.size → listed[j]? = some (l j)) → Region.ready .any ops listed = [] → ∀ i, i < ops.size → l i = true := by
      intro listed l hsz hl hrd i
      induction i using Nat.strongRecOn with
      | _ i ih =>
        intro hi
        cases hli : l i with
        | true => rfl
        | false =>
          have ho : ops[i]? = some ops[i] := Array.getElem?_eq_getElem hi
          have hmem : i ∈ Region.ready .any ops listed := by
            rw [mem_ready]
            refine ⟨by rw [Array.getD_eq_getD_getElem?, hl i hi, hli]; rfl, _, ho, fun e he hbb => ?_⟩
            have hlt := (backB_spec hb ho).2 e he hbb
            rw [Array.getD_eq_getD_getElem?, hl e.on (by omega), ih e.on hlt (by omega)]; rfl
          rw [hrd] at hmem; cases hmem
    intro f
    induction f with
    | zero =>
      intro listed l T' H' a' w' hsz hl hn ht' hs' hm' hd' hi'
      have hall : ∀ i, i < ops.size → l i = true := fun i hi => by
        cases hli : l i with
        | true => rfl
        | false =>
          have : i ∈ (List.range ops.size).filter fun j => !l j := List.mem_filter.2 ⟨List.mem_range.2 hi, by simp [hli]⟩
          rw [List.length_eq_zero_iff.1 (Nat.le_zero.1 hn)] at this; cases this
      refine ⟨?_, rfl, finw l T' H' a' w' hall ht' hs' hm' hd' hi'⟩
      rw [List.eq_nil_iff_forall_not_mem]
      intro i hmem
      obtain ⟨h1, o, ho, _⟩ := mem_ready.1 hmem
      have hi := (Array.getElem?_eq_some_iff.1 ho).1
      rw [Array.getD_eq_getD_getElem?, hl i hi, hall i hi] at h1
      cases h1
    | succ f ih =>
      intro listed l T' H' a' w' hsz hl hn ht' hs' hm' hd' hi'
      refine ⟨fun h => ⟨rfl, finw l T' H' a' w' (done listed l hsz hl h) ht' hs' hm' hd' hi'⟩, fun i hmem => ?_⟩
      obtain ⟨h1, o, ho, hdeps⟩ := mem_ready.1 hmem
      have hi := (Array.getElem?_eq_some_iff.1 ho).1
      have hli : l i = false := by rw [Array.getD_eq_getD_getElem?, hl i hi] at h1; exact h1
      obtain ⟨hg, hlt⟩ := backB_spec hb ho
      obtain ⟨H0, Kp, hp0, hm0, hst, hkp⟩ := step l T' H' i o hs'.apart hi' ho hli fun e he hbb => by
        have := hdeps e he hbb
        rw [Array.getD_eq_getD_getElem?, hl e.on (by have := hlt e he hbb; omega)] at this
        exact this
      have hw : Region.wanted o (yielded ops a'.tmps) = true := by
        rcases gd_ok (ops := ops) (o := o) (A := True) (B := False) ht' (by rw [hg]; trivial) with ⟨h, _⟩ | ⟨_, h⟩
        · exact h
        · exact h.elim
      unfold wpOpIn
      rw [ho]
      dsimp only
      rw [if_pos hw]
      refine evOp_ok hG ht' (hs'.perm hp0) hst ?_
      intro v H'' w'' hi3 hs'' hm''
      replace hi3 := hkp v H'' hi3
      refine ih _ (fun j => j == i || l j) _ H'' _ w'' (by simpa using hsz) (fun j hj => ?_) ?_ (ht'.put o.dst v) hs'' (hm''.trans (hm0.trans hm')) ?_ hi3
      · rw [Array.getElem?_setIfInBounds]
        by_cases hji : i = j
        · subst hji; rw [if_pos rfl, if_pos (by omega)]; simp
        · rw [if_neg hji, hl j hj]; simp [Ne.symm hji]
      · have : ((List.range ops.size).filter fun j => !(j == i || l j)).length < ((List.range ops.size).filter fun j => !l j).length := by
          have hsl : ((List.range ops.size).filter fun j => !(j == i || l j)) = ((List.range ops.size).filter fun j => !l j).filter fun j => !(j == i) := by
            rw [List.filter_filter]
            congr 1
            funext j
            simp
          rw [hsl]
          refine List.length_filter_lt_length_iff_exists.2 ⟨i, List.mem_filter.2 ⟨List.mem_range.2 hi, by simp [hli]⟩, by simp⟩
        omega
      · cases o.dst <;> exact hd'
  have hA := key ops.size (Array.replicate ops.size false) (fun _ => false) T H a _ (by simp) (fun j hj => by simp [hj]) (Nat.le_trans (List.length_filter_le _ _) (by simp)) ht hs.drew rfl hd h0
  refine wpIn_mono (wpIn_region_any hmix hA) ?_
  rintro e a' w' ⟨rfl, T', H', hk⟩
  exact ⟨T', H', hk⟩
theorem getT_put {n k : Nat} (hk : k < n) (T : Tm) (v : Value) (j : Nat) : getT (putT n T (some k) v) j = if j = k then some v else getT T j := by
  simp only [putT, if_pos hk, getT]
def upd {α : Type} (f : Nat → α) (i : Nat) (a : α) : Nat → α := fun j => if j = i then a else f j
theorem upd_self {α : Type} (f : Nat → α) (i : Nat) (a : α) : upd f i a i = a := by simp [upd]
theorem upd_ne {α : Type} {f : Nat → α} {i j : Nat} {a : α} (h : j ≠ i) : upd f i a j = f j := by simp [upd, h]
def dstB (n : Nat) (ops : Array Oper) : Bool := (List.range ops.size).all fun i => match ops[i]? with
  | some o => match o.dst with
    | some s => decide (s < n) && (List.range ops.size).all fun j => i == j || !((ops[j]?).any fun p => p.dst == some s)
    | none => true
  | none => true
theorem dstB_spec {n : Nat} {ops : Array Oper} (h : dstB n ops = true) {i : Nat} {o : Oper} {s : Nat} (ho : ops[i]? = some o) (hs : o.dst = some s) : s < n ∧ ∀ j p, ops[j]? = some p → p.dst = some s → i = j := by
  have hi := (Array.getElem?_eq_some_iff.1 ho).1
  have := List.all_eq_true.1 h i (List.mem_range.2 hi)
  rw [ho] at this
  dsimp only at this
  rw [hs] at this
  simp only [Bool.and_eq_true, decide_eq_true_eq] at this
  refine ⟨this.1, fun j p hp hps => ?_⟩
  have h2 := List.all_eq_true.1 this.2 j (List.mem_range.2 (Array.getElem?_eq_some_iff.1 hp).1)
  rw [hp] at h2
  simpa [hps] using h2
theorem perm_part {α : Type} [DecidableEq α] {l m : List α} (hl : l.Nodup) (hm : m.Nodup) (h : ∀ x ∈ m, x ∈ l) : l.Perm (m ++ l.filter fun x => !m.contains x) := by
  refine (List.perm_ext_iff_of_nodup hl (List.nodup_append.2 ⟨hm, hl.sublist List.filter_sublist, fun a ha b hb he => ?_⟩)).2 fun x => ?_
  · subst he
    have := (List.mem_filter.1 hb).2
    simp [ha] at this
  · rw [List.mem_append, List.mem_filter]
    refine ⟨fun hx => ?_, fun hx => hx.elim (h x) (·.1)⟩
    by_cases hxm : x ∈ m
    · exact .inl hxm
    · exact .inr ⟨hx, by simp [hxm]⟩
def usedB (ops : Array Oper) (used : Nat → List Nat) : Bool := (List.range ops.size).all fun i => decide ((used i).Nodup) && (used i).all fun j => decide (j < i) && ((ops[i]?).any fun o => o.after.any fun e => Region.binds .any e && e.on == j) && (List.range ops.size).all fun k => k == i || !(used k).contains j
def freeB (ops : Array Oper) (used : Nat → List Nat) (i : Nat) : Bool := (List.range ops.size).all fun k => !(used k).contains i
theorem freshN_apart {A B : Hp} (h : ApartE (A ++ B)) (hw : allWr A) : freshN A B :=
  freshN_iff.2 fun e he x hx => ((List.pairwise_append.1 h).2.2 e he x hx (.inl (allWr_mem hw e he))).symm
theorem allWr_of {N : Hp} (h : ∀ e ∈ N, e.wr) : allWr N := by
  induction N with
  | nil => trivial
  | cons e r ih => exact ⟨h e (by simp), ih fun x hx => h x (by simp [hx])⟩
theorem marks_flat {mem : Nat → Hp} : ∀ {L : List Nat}, (∀ i ∈ L, marksOf (mem i) = []) → marksOf (L.flatMap mem) = []
  | [], _ => rfl
  | i :: r, h => by rw [List.flatMap_cons, marks_append, h i (by simp), marks_flat fun j hj => h j (by simp [hj])]; rfl
theorem flat_upd {mem : Nat → Hp} {i : Nat} {N : Hp} {L : List Nat} (h : i ∉ L) : L.flatMap (upd mem i N) = L.flatMap mem := by
  rw [List.flatMap_def, List.flatMap_def]
  congr 1
  exact List.map_congr_left fun j hj => upd_ne fun e => h (e ▸ hj)
theorem subT_of {T' : Tm} : ∀ {A : Tm}, (∀ k v, (k, v) ∈ A → getT T' k = some v) → subT T' A
  | [], _ => trivial
  | x :: _, h => ⟨h x.1 x.2 (by simp), subT_of fun k v hm => h k v (by simp [hm])⟩
theorem subT_mem {T' : Tm} {k : Nat} {v : Value} : ∀ {A : Tm}, subT T' A → (k, v) ∈ A → getT T' k = some v
  | [], _, hm => by cases hm
  | x :: _, h, hm => by
    rcases List.mem_cons.1 hm with rfl | hm
    · exact h.1
    · exact subT_mem h.2 hm
def dstsL (val : Nat → Value) (Tb : Tm) : List Oper → Nat → Tm
  | [], _ => Tb
  | o :: r, i => match o.dst with
    | some s => (s, val i) :: dstsL val Tb r (i + 1)
    | none => dstsL val Tb r (i + 1)
attribute [push_cast] dstsL
theorem dstsL_mem {val : Nat → Value} {Tb : Tm} {k : Nat} {u : Value} : ∀ {l : List Oper} {i : Nat}, (k, u) ∈ dstsL val Tb l i → (k, u) ∈ Tb ∨ ∃ j o, l[j]? = some o ∧ o.dst = some k ∧ u = val (i + j)
  | [], _, h => .inl h
  | o :: r, i, h => by
    have hrec : (k, u) ∈ dstsL val Tb r (i + 1) → (k, u) ∈ Tb ∨ ∃ j p, (o :: r)[j]? = some p ∧ p.dst = some k ∧ u = val (i + j) := fun h => by
      rcases dstsL_mem h with h | ⟨j, p, h1, h2, h3⟩
      · exact .inl h
      · exact .inr ⟨j + 1, p, by simpa using h1, h2, by rw [h3]; congr 1; omega⟩
    unfold dstsL at h
    split at h
    · rename_i s hs
      rcases List.mem_cons.1 h with h | h
      · injection h with h1 h2
        exact .inr ⟨0, o, rfl, by rw [hs, h1], h2⟩
      · exact hrec h
    · exact hrec h
theorem drawS {P : Program} {r : Option Nat} {n : Nat} {G : Gam} (hG : GamOk P G) (hmix : P.follows .mixedOrders = true) {id : Nat} {ops : Array Oper} {K : Exit → Tm → Hp → Prop} {T : Tm} {X : Hp} (Tb : Tm) (V : Nat → (Nat → Value) → Prop) (Q : Nat → (Nat → Value) → Hp → Prop) (used : Nat → List Nat) (F : List Nat)
    (hb : backB ops = true) (hd : dstB n ops = true) (hu : usedB ops used = true) (hTb : subT T Tb) (hTd : (Tb.all fun x => !(ops.toList.filterMap (·.dst)).contains x.1) = true)
    (hF : F.Nodup) (hFs : (F.all fun i => decide (i < ops.size) && freeB ops used i) = true) (hFn : ∀ i, i < ops.size → i ∉ F → (∀ val N, Q i val N → N = []) ∨ freeB ops used i = false)
    (stabV : ∀ i o, ops[i]? = some o → ∀ val val' : Nat → Value, val' i = val i → (∀ j, (o.after.any fun e => Region.binds .any e && e.on == j) = true → val' j = val j) → V i val → V i val')
    (stabQ : ∀ i o, ops[i]? = some o → ∀ (val val' : Nat → Value) (N : Hp), val' i = val i → (∀ j, (o.after.any fun e => Region.binds .any e && e.on == j) = true → val' j = val j) → Q i val N → Q i val' N)
    (hop : ∀ (i : Nat) (o : Oper), ops[i]? = some o → ∀ (T' : Tm) (Y : Hp) (val : Nat → Value) (mem : Nat → Hp), subT T' Tb → (∀ j, (o.after.any fun e => Region.binds .any e && e.on == j) = true → V j val ∧ ∀ s, (ops[j]?).bind (·.dst) = some s → getT T' s = some (val j)) → (∀ j ∈ used i, Q j val (mem j)) →
      freshN ((used i).flatMap mem) Y → (∀ b e, findE X b = some e → findE Y b = some e) → marksOf Y = marksOf X → ApartE Y → evOp P G T' ((used i).flatMap mem ++ Y) o.op (fun v H'' => ∃ N, H'' = N ++ Y ∧ allWr N ∧ marksOf N = [] ∧ V i (upd val i v) ∧ Q i (upd val i v) N))
    (fin : ∀ (val : Nat → Value) (mem : Nat → Hp), (∀ i, i < ops.size → V i val) → (∀ i ∈ F, Q i val (mem i)) → ApartE (F.flatMap mem ++ X) → allWr (F.flatMap mem) → K .normal (dstsL val Tb ops.toList 0) (F.flatMap mem ++ X)) : WpV P r n (.region id ops true) K T X := by
  have husd : ∀ {i : Nat}, i < ops.size → (used i).Nodup ∧ ∀ j ∈ used i, j < i ∧ (∃ o, ops[i]? = some o ∧ ∃ e ∈ o.after, Region.binds .any e = true ∧ e.on = j) ∧ ∀ k, k < ops.size → k ≠ i → j ∉ used k := by
    intro i hi
    have := List.all_eq_true.1 hu i (List.mem_range.2 hi)
    simp only [Bool.and_eq_true, decide_eq_true_eq, List.all_eq_true] at this
    refine ⟨this.1, fun j hj => ?_⟩
    obtain ⟨⟨h1, h2⟩, h3⟩ := this.2 j hj
    refine ⟨h1, ?_, fun k hk hki hmem => ?_⟩
    · cases ho : ops[i]? with
      | none => rw [ho] at h2; cases h2
      | some o =>
        rw [ho] at h2
        obtain ⟨e, he, heb⟩ := Array.any_eq_true'.1 h2
        simp only [Bool.and_eq_true, beq_iff_eq] at heb
        exact ⟨o, rfl, e, he, heb.1, heb.2⟩
    · have := h3 k (List.mem_range.2 hk)
      simp [hki, hmem] at this
  have hbase : ∀ {T' : Tm}, (∀ k v, (k, v) ∈ Tb → getT T' k = some v) → subT T' Tb := fun h => subT_of h
  have hbase' : ∀ {T' : Tm}, subT T' Tb → ∀ k v, (k, v) ∈ Tb → getT T' k = some v := fun h k v hm => subT_mem h hm
  refine drawI hG hmix (fun l T' H' => ∃ (val : Nat → Value) (mem : Nat → Hp) (ord : List Nat), ord.Nodup ∧ (∀ i ∈ ord, l i = true ∧ i < ops.size) ∧ (∀ i, l i = true → i < ops.size → i ∉ ord → ∃ j, j < ops.size ∧ l j = true ∧ i ∈ used j) ∧ (∀ i ∈ ord, ∀ j, j < ops.size → l j = true → i ∉ used j) ∧ H' = ord.flatMap mem ++ X ∧ (∀ i ∈ ord, allWr (mem i) ∧ marksOf (mem i) = []) ∧
    (∀ i o, ops[i]? = some o → l i = true → (∀ e ∈ o.after, Region.binds .any e = true → l e.on = true) ∧ V i val ∧ (i ∈ ord → Q i val (mem i)) ∧ ∀ s, o.dst = some s → getT T' s = some (val i)) ∧ subT T' Tb) hb ?_ ?_ ?_
  · exact ⟨fun _ => undef, fun _ => [], [], List.nodup_nil, by simp, by simp, by simp, rfl, by simp, by simp, hTb⟩
  · rintro l T' H' i o hap ⟨val, mem, ord, h1, h2, h3, h4, rfl, h6, h7, h8⟩ ho hli hdeps
    have hi := (Array.getElem?_eq_some_iff.1 ho).1
    obtain ⟨hun, hus⟩ := husd hi
    have hin : ∀ j ∈ used i, j ∈ ord := fun j hj => by
      obtain ⟨hji, ⟨o', ho', e, he, heb, rfl⟩, hk⟩ := hus j hj
      obtain rfl : o = o' := Option.some.inj (ho.symm.trans ho')
      have hlj := hdeps e he heb
      rcases Classical.em (e.on ∈ ord) with h | h
      · exact h
      · obtain ⟨k, hk1, hk2, hk3⟩ := h3 e.on hlj (by omega) h
        by_cases hki : k = i
        · rw [hki, hli] at hk2; cases hk2
        · exact absurd hk3 (hk k hk1 hki)
    obtain ⟨rest, hperm⟩ : ∃ rest, ord.Perm (used i ++ rest) := ⟨_, perm_part h1 hun hin⟩
    have hnd : (used i ++ rest).Nodup := hperm.nodup_iff.1 h1
    have hnr : rest.Nodup := (List.nodup_append.1 hnd).2.1
    have hio : i ∉ ord := fun h => by rw [(h2 i h).1] at hli; cases hli
    have hir : i ∉ rest := fun h => hio (hperm.mem_iff.2 (List.mem_append_right _ h))
    have hpm : (ord.flatMap mem ++ X).Perm ((used i).flatMap mem ++ (rest.flatMap mem ++ X)) := by
      rw [← List.append_assoc, ← List.flatMap_append]
      exact (hperm.flatMap_right mem).append_right X
    have hm1 : marksOf (ord.flatMap mem) = [] := marks_flat fun j hj => (h6 j hj).2
    have hm2 : marksOf ((used i).flatMap mem) = [] := marks_flat fun j hj => (h6 j (hin j hj)).2
    have hro : ∀ j ∈ rest, j ∈ ord := fun j hj => hperm.mem_iff.2 (List.mem_append_right _ hj)
    have hm3 : marksOf (rest.flatMap mem) = [] := marks_flat fun j hj => (h6 j (hro j hj)).2
    have hap' : ApartE ((used i).flatMap mem ++ (rest.flatMap mem ++ X)) := (hpm.pairwise_iff (fun {x y} hxy hw => (hxy hw.symm).symm)).1 hap
    have hwr : ∀ {L : List Nat}, (∀ j ∈ L, j ∈ ord) → allWr (L.flatMap mem) := fun {L} hL => allWr_of fun e he => by
      obtain ⟨j, hj, hej⟩ := List.mem_flatMap.1 he
      exact allWr_mem (h6 j (hL j hj)).1 e hej
    have hap2 : ApartE (rest.flatMap mem ++ X) := (List.pairwise_append.1 hap').2.1
    refine ⟨_, _, hpm, by simp only [marks_append, hm1, hm2, hm3, List.nil_append], hop i o ho T' (rest.flatMap mem ++ X) val mem h8 (fun j hj => ?_) (fun j hj => ?_) (freshN_apart hap' (hwr hin)) (fun b e hbe => ?_) (by rw [marks_append, hm3]; rfl) hap2, ?_⟩
    · obtain ⟨e, he, heb⟩ := Array.any_eq_true'.1 hj
      simp only [Bool.and_eq_true, beq_iff_eq] at heb
      obtain ⟨hbb, rfl⟩ := heb
      have hlt := (backB_spec hb ho).2 e he hbb
      have hp : ops[e.on]? = some ops[e.on] := Array.getElem?_eq_getElem (by omega)
      obtain ⟨_, g1, _, g2⟩ := h7 e.on _ hp (hdeps e he hbb)
      exact ⟨g1, fun s hs => g2 s (by rw [hp] at hs; exact hs)⟩
    · have hj2 := h2 j (hin j hj)
      exact (h7 j _ (Array.getElem?_eq_getElem hj2.2) hj2.1).2.2.1 (hin j hj)
    · rw [findE_freshN (freshN_apart hap2 (hwr hro)) hbe]; exact hbe
    · rintro v H'' ⟨N, rfl, hN1, hN2, hV, hQ⟩
      have hl' : ∀ j, l j = true → (j == i || l j) = true := fun j hj => by rw [hj, Bool.or_true]
      have hni : ∀ j, l j = true → j ≠ i := fun j hj h => by rw [h, hli] at hj; cases hj
      have hlr : ∀ j ∈ rest, l j = true := fun j hj => (h2 j (hro j hj)).1
      refine ⟨upd val i v, upd mem i N, i :: rest, List.nodup_cons.2 ⟨hir, hnr⟩, ?_, ?_, ?_, ?_, ?_, ?_, ?_⟩
      · intro j hj
        rcases List.mem_cons.1 hj with rfl | hj
        · exact ⟨by simp, hi⟩
        · exact ⟨hl' j (hlr j hj), (h2 j (hro j hj)).2⟩
      · intro j hj hjs hjo
        have hji : j ≠ i := fun h => hjo (h ▸ List.mem_cons_self ..)
        have hjl : l j = true := by simpa [hji] using hj
        rcases Classical.em (j ∈ ord) with h | h
        · rcases List.mem_append.1 (hperm.mem_iff.1 h) with h | h
          · exact ⟨i, hi, by simp, h⟩
          · exact absurd (List.mem_cons_of_mem _ h) hjo
        · obtain ⟨k, k1, k2, k3⟩ := h3 j hjl hjs h
          exact ⟨k, k1, hl' k k2, k3⟩
      · intro j hj k hk hkl hjk
        rcases List.mem_cons.1 hj with rfl | hjr
        · obtain ⟨hk1, ⟨o', ho', e, he, heb, hej⟩, -⟩ := (husd hk).2 j hjk
          have hkj : k ≠ j := by omega
          have hkl' : l k = true := by simpa [hkj] using hkl
          have := (h7 k o' ho' hkl').1 e he heb
          rw [hej, hli] at this; cases this
        · by_cases hki : k = i
          · subst hki
            exact (List.nodup_append.1 hnd).2.2 j hjk j hjr rfl
          · exact h4 j (hro j hjr) k hk (by simpa [hki] using hkl) hjk
      · rw [List.flatMap_cons, upd_self, flat_upd hir, List.append_assoc]
      · intro j hj
        rcases List.mem_cons.1 hj with rfl | hj
        · rw [upd_self]; exact ⟨hN1, hN2⟩
        · rw [upd_ne (hni j (hlr j hj))]; exact h6 j (hro j hj)
      · intro j p hp hj
        by_cases hji : j = i
        · subst hji
          obtain rfl : o = p := Option.some.inj (ho.symm.trans hp)
          refine ⟨fun e he hbb => hl' _ (hdeps e he hbb), hV, fun _ => by rw [upd_self]; exact hQ, fun s hs => ?_⟩
          rw [hs, getT_put (dstB_spec hd ho hs).1, if_pos rfl, upd_self]
        · have hjl : l j = true := by simpa [hji] using hj
          obtain ⟨g1, g2, g3, g4⟩ := h7 j p hp hjl
          have hv : upd val i v j = val j := upd_ne hji
          have hve : ∀ k, (p.after.any fun e => Region.binds .any e && e.on == k) = true → upd val i v k = val k := fun k hk => by
            obtain ⟨e, he, heb⟩ := Array.any_eq_true'.1 hk
            simp only [Bool.and_eq_true, beq_iff_eq] at heb
            obtain ⟨hbb, rfl⟩ := heb
            exact upd_ne (hni _ (g1 e he hbb))
          refine ⟨fun e he hbb => hl' _ (g1 e he hbb), stabV j p hp val _ hv hve g2, fun hjo => ?_, fun s hs => ?_⟩
          · have hjr : j ∈ rest := (List.mem_cons.1 hjo).resolve_left hji
            rw [upd_ne hji]
            exact stabQ j p hp val _ _ hv hve (g3 (hro j hjr))
          · rw [hv]
            cases hod : o.dst with
            | none => exact g4 s hs
            | some s' =>
              rw [getT_put (dstB_spec hd ho hod).1, if_neg (fun hss => hji ((dstB_spec hd hp hs).2 i o ho (by rw [hod, hss])))]
              exact g4 s hs
      · refine hbase fun k u hm => ?_
        have h9 := hbase' h8 k u hm
        cases hod : o.dst with
        | none => exact h9
        | some s' =>
          rw [getT_put (dstB_spec hd ho hod).1, if_neg (fun hks => ?_)]
          · exact h9
          · have := List.all_eq_true.1 hTd (k, u) hm
            simp only [Bool.not_eq_true', List.contains_eq_mem, decide_eq_false_iff_not] at this
            exact this (List.mem_filterMap.2 ⟨o, List.mem_of_getElem? (by simpa using ho), by rw [hod, hks]⟩)
  · rintro l T' H' hall hap ⟨val, mem, ord, h1, h2, h3, h4, rfl, h6, h7, h8⟩
    have hFs' : ∀ i ∈ F, i < ops.size ∧ freeB ops used i = true := fun i hi => by
      have := List.all_eq_true.1 hFs i hi
      simpa using this
    have hFo : ∀ i ∈ F, i ∈ ord := fun i hi => by
      obtain ⟨k1, k2⟩ := hFs' i hi
      rcases Classical.em (i ∈ ord) with h | h
      · exact h
      · obtain ⟨k, k3, k4, k5⟩ := h3 i (hall i k1) k1 h
        have := List.all_eq_true.1 k2 k (List.mem_range.2 k3)
        simp [k5] at this
    have hperm := perm_part h1 hF hFo
    have hnil : (ord.filter fun x => !F.contains x).flatMap mem = [] := by
      rw [List.flatMap_eq_nil_iff]
      intro i hi
      obtain ⟨hio, hiF⟩ := List.mem_filter.1 hi
      have hiF' : i ∉ F := by simpa using hiF
      have hsz := (h2 i hio).2
      rcases hFn i hsz hiF' with h | h
      · exact h val _ ((h7 i _ (Array.getElem?_eq_getElem hsz) (hall i hsz)).2.2.1 hio)
      · have : freeB ops used i = true := List.all_eq_true.2 fun k hk => by
          have := h4 i hio k (List.mem_range.1 hk) (hall k (List.mem_range.1 hk))
          simpa using this
        rw [this] at h; cases h
    have hpm : (ord.flatMap mem ++ X).Perm (F.flatMap mem ++ X) := by
      have := (hperm.flatMap_right mem).append_right X
      rw [List.flatMap_append, hnil, List.append_nil] at this
      exact this
    have hm1 : marksOf (ord.flatMap mem) = [] := marks_flat fun j hj => (h6 j hj).2
    have hm2 : marksOf (F.flatMap mem) = [] := marks_flat fun j hj => (h6 j (hFo j hj)).2
    refine ⟨_, _, hpm, by simp only [marks_append, hm1, hm2], ?_, fin val mem (fun i hi => (h7 i _ (Array.getElem?_eq_getElem hi) (hall i hi)).2.1) (fun i hi => (h7 i _ (Array.getElem?_eq_getElem (hFs' i hi).1) (hall i (hFs' i hi).1)).2.2.1 (hFo i hi)) ((hpm.pairwise_iff (fun {x y} hxy hw => (hxy hw.symm).symm)).1 hap) (allWr_of fun e he => ?_)⟩
    · refine subT_of fun k u hm => ?_
      rcases dstsL_mem hm with hm | ⟨j, o, hj, hs, rfl⟩
      · exact hbase' h8 k u hm
      · have ho : ops[j]? = some o := by simpa using hj
        have hi := (Array.getElem?_eq_some_iff.1 ho).1
        rw [Nat.zero_add]
        exact (h7 j o ho (hall j hi)).2.2.2 k hs
    · obtain ⟨j, hj, hej⟩ := List.mem_flatMap.1 he
      exact allWr_mem (h6 j (hFo j hj)).1 e hej
end Go.Ev
set_option linter.unusedSimpArgs false
set_option linter.unusedVariables false
namespace Go.Ev
theorem byteV_lenA (l : List UInt8) : (byteV l).length = l.length := by simp [byteV]
theorem byteV_allA (l : List UInt8) : (byteV l).all oneC = true := by
  unfold byteV
  rw [List.all_map]
  exact List.all_eq_true.2 fun _ _ => rfl
structure Ad where
  l : List UInt8
  hl : l.length = 20
theorem Ad.ext {x y : Ad} (h : x.l = y.l) : x = y := by cases x; cases y; cases h; rfl
instance : DecidableEq Ad := fun x y => if h : x.l = y.l then .isTrue (Ad.ext h) else .isFalse fun e => h (by rw [e])
def Ad.cells (x : Ad) : List Value := byteV x.l
def Ad.v (x : Ad) : Value := .agg x.cells.toArray
theorem Ad.len (x : Ad) : x.cells.length = 20 := by unfold Ad.cells; rw [byteV_lenA, x.hl]
theorem Ad.all1 (x : Ad) : x.cells.all oneC = true := byteV_allA _
def Ad.zero : Ad := ⟨List.replicate 20 0, by decide⟩
noncomputable def Ad.num (x : Ad) : Nat := x.l.foldl (fun n b => 256 * n + b.toNat) 0
structure Ac where
  at_ : Ad
  bal : W
  nonce : Int
  code : ByteArray
  slots : List Sl
instance : DecidableEq Ac := fun x y => if h : x.at_ = y.at_ ∧ x.bal = y.bal ∧ x.nonce = y.nonce ∧ x.code = y.code ∧ x.slots = y.slots then .isTrue (by cases x; cases y; obtain ⟨h1, h2, h3, h4, h5⟩ := h; cases h1; cases h2; cases h3; cases h4; cases h5; rfl) else .isFalse fun e => h (by rw [e]; exact ⟨rfl, rfl, rfl, rfl, rfl⟩)
def Ac.cells (x : Ac) (sv : Value) : List Value := x.at_.cells ++ (x.bal.cells ++ [.int .i64 x.nonce, .string x.code, sv])
def acC (x : Ac × Value) : List Value := x.1.cells x.2
theorem acC_len (x : Ac × Value) : (acC x).length = 27 := by
  unfold acC Ac.cells
  rw [List.length_append, Ad.len]; rfl
def AcR (x : Ac) : Value → Hp → Prop := fun v H => ∃ sv, v = .agg (x.cells sv).toArray ∧ LiR Sl.cells 8 H x.slots sv
def StR (s : List Ac) : Value → Hp → Prop := fun v H => ∃ L : List (Ac × Value), L.map (·.1) = s ∧ LiR acC 27 H L v ∧ ∀ x ∈ L, LiR Sl.cells 8 H x.1.slots x.2
structure Ch where
  kind : Int
  at_ : Ad
  key : W
  val : W
  nonce : Int
  code : ByteArray
instance : DecidableEq Ch := fun x y => if h : x.kind = y.kind ∧ x.at_ = y.at_ ∧ x.key = y.key ∧ x.val = y.val ∧ x.nonce = y.nonce ∧ x.code = y.code then .isTrue (by cases x; cases y; obtain ⟨h1, h2, h3, h4, h5, h6⟩ := h; cases h1; cases h2; cases h3; cases h4; cases h5; cases h6; rfl) else .isFalse fun e => h (by rw [e]; exact ⟨rfl, rfl, rfl, rfl, rfl, rfl⟩)
def Ch.cells (x : Ch) : List Value := .int .i64 x.kind :: (x.at_.cells ++ (x.key.cells ++ (x.val.cells ++ [.int .i64 x.nonce, .string x.code])))
def Ch.v (x : Ch) : Value := .agg x.cells.toArray
theorem Ch.len (x : Ch) : x.cells.length = 31 := by
  unfold Ch.cells
  rw [List.length_cons, List.length_append, Ad.len]; rfl
structure Jo where
  state : List Ac
  undo : List Ch
  marks : List Int
section
variable {H H' : Hp} {v : Value}
theorem AcR.rd (x : Ac) : RdOnly (AcR x) := by
  rintro v A B h ⟨sv, rfl, h1⟩
  exact ⟨sv, rfl, h1.congr h⟩
theorem StR.ext {s : List Ac} (h : Ext H H') (hx : StR s v H) : StR s v H' := by
  obtain ⟨L, rfl, h1, h2⟩ := hx
  exact ⟨L, rfl, h1.ext h, fun x hx => (h2 x hx).ext h⟩
theorem StR.slice {s : List Ac} (hx : StR s v H) : ∃ p k, v = .slice p s.length k := by
  obtain ⟨L, h1, ⟨p, k, h2, -⟩, -⟩ := hx
  exact ⟨p, k, by rw [h2, ← h1, List.length_map]⟩
theorem StR.rd (s : List Ac) : RdOnly (StR s) := by
  rintro v A B h ⟨L, rfl, h1, h2⟩
  exact ⟨L, rfl, h1.congr h, fun x hx => (h2 x hx).congr h⟩
theorem StR.nil (H : Hp) (k : Nat) : StR [] (.slice none 0 k) H := ⟨[], rfl, LiR.nil _ _, fun x hx => by cases hx⟩
end
end Go.Ev
set_option linter.unusedSimpArgs false
set_option linter.unusedVariables false
namespace Go.Ev
def PutQ (r : List Sl × Int) : Value → Hp → Prop := fun v H => ∃ w, v = .tuple #[w, .int .i64 r.2] ∧ LiR Sl.cells 8 H r.1 w
theorem PutQ.rd (r : List Sl × Int) : RdOnly (PutQ r) := by
  rintro v A B h ⟨w, rfl, h1⟩
  exact ⟨w, rfl, h1.congr h⟩
end Go.Ev
namespace Go.Proofs.YtpcjmmdgopihcaaGreatDoor
open Go Go.Ev Go.Proofs
set_option maxRecDepth 100000
set_option maxHeartbeats 4000000
theorem outE_newK {M0 : Hp} {e : Nat} {r : List Sl × Int} {v : Value} {N : Hp} (h : OutE e r v N) : NewK M0 (PutQ r) v N := by
  obtain ⟨w, rfl, h⟩ := h
  exact ⟨h.wr.1, h.wr.2, fun _ => ⟨w, rfl, h.r⟩⟩
section
variable {M : Hp} {l m : List Sl} {v u : Value} {k w : W}
theorem put_R (hl : LiR Sl.cells 8 M l v) : CallsR Tryz.prog 69 [v, k.v, w.v] M (PutQ (mergeR l [⟨k, w⟩])) :=
  fun _ hr he => CallsV.toK (put_ok hr.der hr.marks (hl.congr he.symm)) fun _ _ h => outE_newK h
theorem get_R (hl : LiR Sl.cells 8 M l v) (hn : l.length ≤ 4000) : ∀ M0, roM M0 → cellsAt M0 = cellsAt M → CallsV Tryz.prog 68 [v, k.v] M0 (Ret0 (getW l k).v) := fun _ hr he => by
  obtain ⟨Hf, h1, h2⟩ := SlR.h (hl.congr he.symm)
  exact (get_ok h1 hn).ret0 h2 hr.marks
theorem right_R (hl : LiR Sl.cells 8 M l v) : ∀ M0, roM M0 → cellsAt M0 = cellsAt M → CallsV Tryz.prog 62 [v] M0 (Ret0 (.bool (rightB l))) := fun _ hr he => by
  obtain ⟨Hf, h1, h2⟩ := SlR.h (hl.congr he.symm)
  exact (right_ok h1).ret0 h2 hr.marks
end
end Go.Proofs.YtpcjmmdgopihcaaGreatDoor
set_option linter.unusedSimpArgs false
set_option linter.unusedVariables false
namespace Go.Ev
theorem run_loadBytes {P : Program} {w : World} {b : Nat} : ∀ (ns : List Int) (o : Nat) (acc : ByteArray), (∀ j v, (ns.map (Value.int .u8))[j]? = some v → w.cell? ⟨b, o + j, none⟩ = some v) →
    (Extern.Bytes.loadBytes ⟨b, o, none⟩ ns.length acc).run P w = .ok ⟨acc.data ++ (ns.map fun n => UInt8.ofNat n.toNat).toArray⟩ w
  | [], o, acc, _ => by
    simp [Extern.Bytes.loadBytes]
  | x :: r, o, acc, h => by
    have h0 := h 0 (.int .u8 x) rfl
    have hr := run_loadBytes (P := P) r (o + 1) (acc.push (UInt8.ofNat x.toNat)) fun j v hj => by
      have := h (j + 1) v (by simpa using hj)
      rw [show o + 1 + j = o + (j + 1) by omega]; exact this
    rw [List.length_cons, Extern.Bytes.loadBytes]
    rw [Nat.add_zero] at h0
    simp only [Sem.run_bind, run_load, h0, Result.andThen_ok]
    refine Eq.trans (show _ = (Extern.Bytes.loadBytes ⟨b, o + 1, none⟩ r.length (acc.push (UInt8.ofNat x.toNat))).run P w from rfl) (hr.trans ?_)
    congr 2
    rw [show (acc.push (UInt8.ofNat x.toNat)).data = acc.data.push (UInt8.ofNat x.toNat) from rfl]
    simp
noncomputable def cmpL : List UInt8 → List UInt8 → Int := hid fun a b => Extern.BytealgCompare.cmp ⟨a.toArray⟩ ⟨b.toArray⟩
theorem cmpL_eq (a b : List UInt8) : cmpL a b = Extern.BytealgCompare.cmp ⟨a.toArray⟩ ⟨b.toArray⟩ := by unfold cmpL; rw [hid_eq]
noncomputable def cmpM : List Value → Hp → Option Value
  | [.slice (some ⟨b1, o1, none⟩) n1 _, .slice (some ⟨b2, o2, none⟩) n2 _], H => (cellsAt H b1 o1 n1).bind fun x => (cellsAt H b2 o2 n2).bind fun y => (bytesOf x).bind fun l => (bytesOf y).bind fun m => some (.int .i64 (cmpL l m))
  | _, _ => none
attribute [push_cast] bytesOf_byteV
end Go.Ev
namespace Go.Proofs.YtpcjmmdgopihcaaGreatDoor
open Go Go.Ev Go.Proofs
set_option maxRecDepth 100000
set_option maxHeartbeats 4000000
theorem cmpM_ok (args : List Value) (H : Hp) (v : Value) (h : cmpM args H = some v) : ExtM Tryz.prog 93 args H v := by
  unfold cmpM at h
  split at h
  case h_2 => cases h
  rename_i b1 o1 n1 c1 b2 o2 n2 c2
  obtain ⟨x, hx, h⟩ := Option.bind_eq_some_iff.1 h
  obtain ⟨y, hy, h⟩ := Option.bind_eq_some_iff.1 h
  obtain ⟨l, hl, h⟩ := Option.bind_eq_some_iff.1 h
  obtain ⟨m, hm, h⟩ := Option.bind_eq_some_iff.1 h
  cases h
  obtain ⟨ns, rfl, rfl⟩ := bytesOf_ints hl
  obtain ⟨ms, rfl, rfl⟩ := bytesOf_ints hm
  intro w0 mu w hs
  obtain ⟨g1, g2⟩ := hs.cellsAt hx
  obtain ⟨g3, g4⟩ := hs.cellsAt hy
  rw [List.length_map] at g1 g3
  subst g1 g3
  rw [run_callFunc_extern Tryz.func93 (by kernel_rfl) (by kernel_rfl) (by kernel_rfl) (e := Extern.BytealgCompare.compare) (by kernel_rfl)]
  have e1 := run_loadBytes (P := Tryz.prog) ns o1 .empty g2
  have e2 := run_loadBytes (P := Tryz.prog) ms o2 .empty g4
  have e3 : (Extern.BytealgCompare.compare #[.slice (some ⟨b1, o1, none⟩) ns.length c1, .slice (some ⟨b2, o2, none⟩) ms.length c2]).run Tryz.prog w = .ok (.int .i64 (cmpL (ns.map fun n => UInt8.ofNat n.toNat) (ms.map fun n => UInt8.ofNat n.toNat))) w := by
    change Sem.run Tryz.prog (α := Value) (do pure (goInt (Extern.BytealgCompare.cmp (← Extern.Bytes.bytesOf (.slice (some ⟨b1, o1, none⟩) ns.length c1)) (← Extern.Bytes.bytesOf (.slice (some ⟨b2, o2, none⟩) ms.length c2))))) w = _
    simp only [Extern.Bytes.bytesOf, Sem.run_bind, e1, e2, Result.andThen_ok, Sem.run_pure, cmpL_eq]
    have em : ∀ l : List UInt8, (⟨ByteArray.empty.data ++ l.toArray⟩ : ByteArray) = ⟨l.toArray⟩ := fun l => by
      congr 1
      show #[] ++ l.toArray = l.toArray
      simp
    rw [em, em]
    rfl
  rw [e3]
  rfl
noncomputable def gA0 : Gam := (addM 93 cmpM gB)
attribute [push_cast] gA0
theorem gA0_ok : GamOk Tryz.prog gA0 := (addM_ok cmpM_ok gB_ok)
theorem bytesCompare_ok {H : Hp} {b1 o1 n1 c1 b2 o2 n2 c2 : Nat} {l m : List UInt8} (h1 : cellsAt H b1 o1 n1 = some (byteV l)) (h2 : cellsAt H b2 o2 n2 = some (byteV m)) (hm : marksOf H = []) :
    CallsV Tryz.prog 63 [.slice (some ⟨b1, o1, none⟩) n1 c1, .slice (some ⟨b2, o2, none⟩) n2 c2] H (Ret0 (.int .i64 (cmpL l m))) := by
  have hc : cmpM [.slice (some ⟨b1, o1, none⟩) n1 c1, .slice (some ⟨b2, o2, none⟩) n2 c2] H = some (.int .i64 (cmpL l m)) := by
    unfold cmpM
    dsimp only
    rw [h1, h2]
    simp only [Option.bind_some, bytesOf_byteV]
  refine callsO gA0_ok Tryz.mix Tryz.pl63 Tryz.func63 rfl Tryz.ntmps63 Tryz.results63 rfl (by first | rfl | assumption) (Nat.le_of_ble_eq_true rfl) (by kernel_rfl) ?_
  simp only [push_cast, seval, reduceCtorEq, hc]
theorem order_ok (x y : Ad) : CallsV Tryz.prog 32 [x.v, y.v] [] (Ret0 (.int .i64 (cmpL x.l y.l))) := by
  refine callsO gA0_ok Tryz.mix Tryz.pl32 Tryz.func32 rfl Tryz.ntmps32 Tryz.results32 rfl (by first | rfl | assumption) (Nat.le_of_ble_eq_true rfl) (by kernel_rfl) ?_
  simp only [push_cast, seval, reduceCtorEq]
  intro b2 b3 hb3
  have q : ∀ (b : Nat) (z : Ad) (k : Kind) (X : Hp), cellsAt (⟨b, 0, k, z.cells⟩ :: X) b 0 20 = some z.cells := fun b z k X => by
    unfold cellsAt
    simp only [findE, if_true, Nat.zero_le, Nat.sub_zero, subL, List.drop_zero, Nat.zero_add]
    rw [if_pos (by rw [z.len]; omega), List.take_of_length_le (by rw [z.len]; omega)]
  have q2 : ∀ (k k' : Kind), cellsAt [⟨b3, 0, k, y.cells⟩, ⟨b2, 0, k', x.cells⟩] b2 0 20 = some x.cells := fun k k' => by
    have := q b2 x k' []
    unfold cellsAt at this ⊢
    simp only [findE, if_neg hb3.2, if_true] at this ⊢
    exact this
  refine TakeV.mk (Hf := [⟨b3, 0, .ro, y.cells⟩, ⟨b2, 0, .ro, x.cells⟩]) ⟨⟨rfl, by dsimp only; rw [y.len]; exact q b3 y _ _⟩, ⟨rfl, by dsimp only; rw [x.len]; exact q2 _ _⟩, trivial⟩ (bytesCompare_ok (q2 .ro .ro) (q b3 y .ro _) rfl) ?_
  simp only [push_cast, seval, reduceCtorEq]
end Go.Proofs.YtpcjmmdgopihcaaGreatDoor
set_option linter.unusedSimpArgs false
set_option linter.unusedVariables false
namespace Go.Ev
noncomputable def mayA (x : Ac) : Bool := decide (0 ≤ x.nonce) && (decide (x.nonce ≤ 9007199254740992) && (decide (x.code.size ≤ 24576) && rightB x.slots))
def emptyA (x : Ac) : Bool := decide (x.bal = W.zero) && (decide (x.nonce = 0) && (decide (x.code.size = 0) && decide (x.slots.length = 0)))
theorem Ac.get (x : Ac) (sv : Value) : List.take 20 (x.cells sv) = x.at_.cells ∧ List.take 4 (List.drop 20 (x.cells sv)) = x.bal.cells ∧ List.take 1 (List.drop 24 (x.cells sv)) = [.int .i64 x.nonce] ∧
    List.take 1 (List.drop 25 (x.cells sv)) = [.string x.code] ∧ List.take 1 (List.drop 26 (x.cells sv)) = [sv] ∧ (x.cells sv).length = 27 := by
  have h := x.at_.len
  unfold Ac.cells
  refine ⟨?_, ?_, ?_, ?_, ?_, ?_⟩
  · rw [List.take_append_of_le_length (by omega), List.take_of_length_le (by omega)]
  · rw [List.drop_append_of_le_length (by omega), List.drop_of_length_le (by omega)]; rfl
  · rw [show 24 = x.at_.cells.length + 4 by omega, List.drop_length_add_append]; rfl
  · rw [show 25 = x.at_.cells.length + 5 by omega, List.drop_length_add_append]; rfl
  · rw [show 26 = x.at_.cells.length + 6 by omega, List.drop_length_add_append]; rfl
  · rw [List.length_append, h]; rfl
end Go.Ev
namespace Go.Proofs.YtpcjmmdgopihcaaGreatDoor
open Go Go.Ev Go.Proofs
set_option maxRecDepth 100000
set_option maxHeartbeats 4000000
theorem may_ok {M : Hp} {x : Ac} {sv : Value} (hs : LiR Sl.cells 8 M x.slots sv) (hm : marksOf M = []) : CallsV Tryz.prog 31 [.agg (x.cells sv).toArray] M (Ret0 (.bool (mayA x))) := by
  obtain ⟨h1, h2, h3, h4, h5, h6⟩ := x.get sv
  refine callsO gA0_ok Tryz.mix (fun i => if i = 1 then [(0, 9)] else Tryz.pl31 i) Tryz.func31 rfl Tryz.ntmps31 Tryz.results31 rfl (by first | rfl | assumption) (Nat.le_of_ble_eq_true rfl) (by kernel_rfl) ?_
  simp only [push_cast, seval, reduceCtorEq]
  intro b1 hb1
  refine regO gA0_ok ?_
  by_cases c1 : 0 ≤ x.nonce
  case neg =>
    have e : mayA x = false := by unfold mayA; rw [decide_eq_false c1]; rfl
    simp only [push_cast, seval, reduceCtorEq, h1, h2, h3, h4, h5, h6, c1, e]
  by_cases c2 : x.nonce ≤ 9007199254740992
  case neg =>
    have e : mayA x = false := by unfold mayA; rw [decide_eq_false c2, decide_eq_true c1]; rfl
    simp only [push_cast, seval, reduceCtorEq, h1, h2, h3, h4, h5, h6, c1, c2, e]
  by_cases c3 : x.code.size ≤ 24576
  case neg =>
    have c3' : ¬ (x.code.size : Int) ≤ 24576 := by omega
    have e : mayA x = false := by unfold mayA; rw [decide_eq_false c3, decide_eq_true c1, decide_eq_true c2]; rfl
    simp only [push_cast, seval, reduceCtorEq, h1, h2, h3, h4, h5, h6, c1, c2, c3, c3', e]
  have c3' : (x.code.size : Int) ≤ 24576 := by omega
  have e : mayA x = rightB x.slots := by unfold mayA; rw [decide_eq_true c3, decide_eq_true c1, decide_eq_true c2]; rfl
  simp only [push_cast, seval, reduceCtorEq, h1, h2, h3, h4, h5, h6, c1, c2, c3, c3']
  refine useP [_] (right_R hs) ⟨hb1, trivial⟩ ?_
  simp only [push_cast, seval, reduceCtorEq, e]
theorem empty_ok {M : Hp} {x : Ac} {sv : Value} (hs : LiR Sl.cells 8 M x.slots sv) (hm : marksOf M = []) : CallsV Tryz.prog 16 [.agg (x.cells sv).toArray] M (Ret0 (.bool (emptyA x))) := by
  obtain ⟨h1, h2, h3, h4, h5, h6⟩ := x.get sv
  obtain ⟨p, k, rfl, -⟩ := hs
  have va : ∀ w : W, Value.agg w.cells.toArray = w.v := fun _ => rfl
  refine callsO gA0_ok Tryz.mix (fun i => if i = 1 then [(0, 9)] else Tryz.pl16 i) Tryz.func16 rfl Tryz.ntmps16 Tryz.results16 rfl (by first | rfl | assumption) (Nat.le_of_ble_eq_true rfl) (by kernel_rfl) ?_
  simp only [push_cast, seval, reduceCtorEq]
  intro b1 hb1
  refine regO gA0_ok ?_
  by_cases c1 : x.bal = W.zero
  case neg =>
    have e : emptyA x = false := by unfold emptyA; rw [decide_eq_false c1]; rfl
    simp only [push_cast, seval, reduceCtorEq, h1, h2, h3, h4, h5, h6, va, W.zero_agg, decide_eq_false c1, e]
  by_cases c2 : x.nonce = 0
  case neg =>
    have e : emptyA x = false := by unfold emptyA; rw [decide_eq_false c2, decide_eq_true c1]; rfl
    have c2' : (x.nonce == 0) = false := beq_eq_false_iff_ne.2 c2
    simp only [push_cast, seval, reduceCtorEq, h1, h2, h3, h4, h5, h6, va, W.zero_agg, decide_eq_true c1, c2', e]
  have c2' : (x.nonce == 0) = true := by rw [c2]; rfl
  obtain ⟨c3, hc3⟩ : ∃ b, (x.code.toList == ByteArray.toList { data := #[] }) = b := ⟨_, rfl⟩
  have hsz : decide (x.code.size = 0) = c3 := by
    rw [← hc3, ByteArray.toList_eq, ByteArray.toList_eq, Bool.eq_iff_iff, decide_eq_true_eq, beq_iff_eq]
    show x.code.data.size = 0 ↔ x.code.data.toList = []
    rw [← Array.length_toList, List.length_eq_zero_iff]
  cases c3
  case false =>
    have e : emptyA x = false := by unfold emptyA; rw [hsz, decide_eq_true c1, decide_eq_true c2]; rfl
    simp only [push_cast, seval, reduceCtorEq, h1, h2, h3, h4, h5, h6, va, W.zero_agg, decide_eq_true c1, c2', hc3, e]
  have e : emptyA x = decide (x.slots.length = 0) := by unfold emptyA; rw [hsz, decide_eq_true c1, decide_eq_true c2]; rfl
  simp only [push_cast, seval, reduceCtorEq, h1, h2, h3, h4, h5, h6, va, W.zero_agg, decide_eq_true c1, c2', hc3, e]
  congr 1
  rw [Bool.eq_iff_iff, beq_iff_eq, decide_eq_true_eq]
  omega
end Go.Proofs.YtpcjmmdgopihcaaGreatDoor
set_option linter.unusedSimpArgs false
set_option linter.unusedVariables false
namespace Go.Ev
theorem get_cons_zero (x : UInt8) (r : List UInt8) : (⟨(x :: r).toArray⟩ : ByteArray)[0]! = x := rfl
theorem get_cons_succ (x : UInt8) (r : List UInt8) (i : Nat) : (⟨(x :: r).toArray⟩ : ByteArray)[i + 1]! = (⟨r.toArray⟩ : ByteArray)[i]! := by
  have e : ∀ (l : List UInt8) (j : Nat), (⟨l.toArray⟩ : ByteArray)[j]! = l.getD j default := fun l j => by
    have hsz : (⟨l.toArray⟩ : ByteArray).size = l.length := by show l.toArray.size = _; simp
    by_cases hj : j < l.length
    · rw [getElem!_pos _ j (by rw [hsz]; exact hj)]
      simp [List.getD, hj]
      rfl
    · rw [getElem!_neg _ j (by rw [hsz]; exact hj)]
      simp [List.getD, hj]
  rw [e, e]
  simp [List.getD]
theorem cmpL_cons (x y : UInt8) (r s : List UInt8) (h : r.length = s.length) : cmpL (x :: r) (y :: s) = if x = y then cmpL r s else if x < y then -1 else 1 := by
  rw [cmpL_eq, cmpL_eq]
  unfold Extern.BytealgCompare.cmp
  have hs1 : (⟨(x :: r).toArray⟩ : ByteArray).size = r.length + 1 := by show (x :: r).toArray.size = _; simp
  have hs2 : (⟨(y :: s).toArray⟩ : ByteArray).size = s.length + 1 := by show (y :: s).toArray.size = _; simp
  have hs3 : (⟨r.toArray⟩ : ByteArray).size = r.length := by show r.toArray.size = _; simp
  have hs4 : (⟨s.toArray⟩ : ByteArray).size = s.length := by show s.toArray.size = _; simp
  rw [hs1, hs2, hs3, hs4, h, Nat.min_self, Nat.min_self, List.range_succ_eq_map, List.find?_cons, get_cons_zero, get_cons_zero]
  by_cases hxy : x = y
  · subst hxy
    simp only [bne_self_eq_false, if_true, List.find?_map, Function.comp_def, Nat.succ_eq_add_one, get_cons_succ]
    cases List.find? (fun i => (⟨r.toArray⟩ : ByteArray)[i]! != (⟨s.toArray⟩ : ByteArray)[i]!) (List.range s.length) with
    | none => simp
    | some i => simp [get_cons_succ]
  · have : (x != y) = true := by simpa using hxy
    simp only [this, if_neg hxy]
    rfl
def numB : List UInt8 → Nat
  | [] => 0
  | x :: r => x.toNat * 256 ^ r.length + numB r
theorem numB_lt : ∀ l : List UInt8, numB l < 256 ^ l.length
  | [] => by simp [numB]
  | x :: r => by
    have h := numB_lt r
    have hx : x.toNat < 256 := x.toNat_lt
    rw [numB, List.length_cons, Nat.pow_succ, Nat.mul_comm _ 256]
    have : (x.toNat + 1) * 256 ^ r.length ≤ 256 * 256 ^ r.length := Nat.mul_le_mul_right _ hx
    rw [Nat.add_mul, Nat.one_mul] at this
    omega
theorem numB_foldl : ∀ (l : List UInt8) (n : Nat), l.foldl (fun n b => 256 * n + b.toNat) n = n * 256 ^ l.length + numB l
  | [], n => by simp [numB]
  | x :: r, n => by
    rw [List.foldl_cons, numB_foldl r, numB, List.length_cons, Nat.pow_succ, Nat.add_mul]
    rw [show 256 * n * 256 ^ r.length = n * (256 ^ r.length * 256) by rw [Nat.mul_comm 256 n, Nat.mul_assoc, Nat.mul_comm 256]]
    omega
theorem Ad.num_eq (x : Ad) : x.num = numB x.l := by unfold Ad.num; rw [numB_foldl]; simp
theorem cmpL_num : ∀ (r s : List UInt8), r.length = s.length → cmpL r s = if numB r < numB s then -1 else if numB s < numB r then 1 else 0
  | [], [], _ => by rw [cmpL_eq]; rfl
  | x :: r, y :: s, h => by
    have h' : r.length = s.length := by simpa using h
    have h1 := numB_lt r
    have h2 := numB_lt s
    rw [cmpL_cons x y r s h', cmpL_num r s h', numB, numB, h']
    rw [h'] at h1
    by_cases hxy : x = y
    · subst hxy
      rw [if_pos rfl]
      simp only [Nat.add_lt_add_iff_left]
    · rw [if_neg hxy]
      have hne : x.toNat ≠ y.toNat := fun e => hxy (UInt8.toNat_inj.1 e)
      by_cases hlt : x < y
      · have hl : x.toNat < y.toNat := hlt
        have : (x.toNat + 1) * 256 ^ s.length ≤ y.toNat * 256 ^ s.length := Nat.mul_le_mul_right _ hl
        rw [Nat.add_mul, Nat.one_mul] at this
        rw [if_pos hlt, if_pos (by omega)]
      · have hl : y.toNat < x.toNat := by have : ¬ x.toNat < y.toNat := hlt; omega
        have : (y.toNat + 1) * 256 ^ s.length ≤ x.toNat * 256 ^ s.length := Nat.mul_le_mul_right _ hl
        rw [Nat.add_mul, Nat.one_mul] at this
        rw [if_neg hlt, if_neg (by omega), if_pos (by omega)]
theorem cmpL_ad (x y : Ad) : cmpL x.l y.l = if x.num < y.num then -1 else if y.num < x.num then 1 else 0 := by
  rw [cmpL_num _ _ (by rw [x.hl, y.hl]), x.num_eq, y.num_eq]
theorem numB_inj : ∀ {r s : List UInt8}, r.length = s.length → numB r = numB s → r = s
  | [], [], _, _ => rfl
  | x :: r, y :: s, h, he => by
    have h' : r.length = s.length := by simpa using h
    have h1 := numB_lt r
    have h2 := numB_lt s
    rw [numB, numB, h'] at he
    rw [h'] at h1
    have hxy : x.toNat = y.toNat := by
      rcases Nat.lt_trichotomy x.toNat y.toNat with hl | hl | hl
      · have : (x.toNat + 1) * 256 ^ s.length ≤ y.toNat * 256 ^ s.length := Nat.mul_le_mul_right _ hl
        rw [Nat.add_mul, Nat.one_mul] at this
        omega
      · exact hl
      · have : (y.toNat + 1) * 256 ^ s.length ≤ x.toNat * 256 ^ s.length := Nat.mul_le_mul_right _ hl
        rw [Nat.add_mul, Nat.one_mul] at this
        omega
    rw [hxy] at he
    rw [UInt8.toNat_inj.1 hxy, numB_inj h' (by omega)]
theorem Ad.num_inj {x y : Ad} (h : x.num = y.num) : x = y := by
  rw [x.num_eq, y.num_eq] at h
  exact Ad.ext (numB_inj (by rw [x.hl, y.hl]) h)
end Go.Ev
set_option linter.unusedSimpArgs false
set_option linter.unusedVariables false
namespace Go.Ev
theorem numB_first {a b : UInt8} (hab : a ≠ b) : ∀ (i : Nat) {r s : List UInt8}, r.length = s.length → r.take i = s.take i → r[i]? = some a → s[i]? = some b → (numB r < numB s ↔ a.toNat < b.toNat)
  | 0, x :: r, y :: s, h, _, ha, hb => by
    simp only [List.getElem?_cons_zero, Option.some.injEq] at ha hb
    subst ha hb
    have h' : r.length = s.length := by simpa using h
    have h1 := cmpL_num (x :: r) (y :: s) h
    rw [cmpL_cons x y r s h', if_neg hab] at h1
    by_cases hlt : x.toNat < y.toNat
    · rw [if_pos (show x < y from hlt)] at h1
      refine ⟨fun _ => hlt, fun _ => ?_⟩
      by_cases hn : numB (x :: r) < numB (y :: s)
      · exact hn
      · rw [if_neg hn] at h1
        split at h1 <;> omega
    · rw [if_neg (show ¬ x < y from hlt)] at h1
      refine ⟨fun hn => ?_, fun h => absurd h hlt⟩
      rw [if_pos hn] at h1
      omega
  | 0, [], _, _, _, ha, _ => by simp at ha
  | 0, _ :: _, [], h, _, _, _ => by simp at h
  | i + 1, [], _, _, _, ha, _ => by simp at ha
  | i + 1, _ :: _, [], h, _, _, _ => by simp at h
  | i + 1, x :: r, y :: s, h, ht, ha, hb => by
    have h' : r.length = s.length := by simpa using h
    simp only [List.take_succ_cons, List.cons.injEq] at ht
    obtain ⟨rfl, ht⟩ := ht
    simp only [List.getElem?_cons_succ] at ha hb
    rw [numB, numB, h']
    have := numB_first hab i h' ht ha hb
    omega
end Go.Ev
namespace Go.Proofs.YtpcjmmdgopihcaaGreatDoor
open Go Go.Ev Go.Proofs
set_option maxRecDepth 100000
set_option maxHeartbeats 4000000
theorem less_ok (x y : Ad) : CallsV Tryz.prog 34 [x.v, y.v] [] (Ret0 (.bool (decide (x.num < y.num)))) := by
  refine callsO gA0_ok Tryz.mix Tryz.pl34 Tryz.func34 rfl Tryz.ntmps34 Tryz.results34 rfl (by first | rfl | assumption) (Nat.le_of_ble_eq_true rfl) (by kernel_rfl) ?_
  simp only [push_cast, seval, reduceCtorEq]
  intro b2 b3 hb3
  have hx : x.v.cells.toList = x.cells := rfl
  have hy : y.v.cells.toList = y.cells := rfl
  refine loopO gA0_ok (pl := Tryz.pl34) Tryz.mix (X := Nat)
    (fun i => ([(2, .pointer (some ⟨b2, 0, none⟩)), (3, .pointer (some ⟨b3, 0, none⟩)), (5, .int .i64 i)], [⟨b3, 0, .cel 25, y.cells⟩, ⟨b2, 0, .cel 25, x.cells⟩]))
    (fun i => i ≤ 20 ∧ x.l.take i = y.l.take i) (fun i => 20 - i) 0 ?_ ?_ (by kernel_rfl) ?_
  · exact ⟨Nat.zero_le _, rfl⟩
  · simp only [push_cast, seval, reduceCtorEq, hx, hy, hb3]
  · rintro i ⟨hi, ht⟩
    dsimp only at hi ht ⊢
    rcases Nat.lt_or_ge i 20 with hlt | hge
    · have i1 : (i : Int) < 20 := by omega
      have lx : i < x.l.length := by rw [x.hl]; exact hlt
      have ly : i < y.l.length := by rw [y.hl]; exact hlt
      have gx : List.take 1 (List.drop i x.cells) = [.int .u8 (x.l[i].toNat)] := by
        unfold Ad.cells byteV
        rw [← List.map_drop, ← List.map_take, List.drop_eq_getElem_cons lx]; rfl
      have gy : List.take 1 (List.drop i y.cells) = [.int .u8 (y.l[i].toNat)] := by
        unfold Ad.cells byteV
        rw [← List.map_drop, ← List.map_take, List.drop_eq_getElem_cons ly]; rfl
      have zx : i + 1 ≤ x.cells.length := by rw [x.len]; exact hlt
      have zy : i + 1 ≤ y.cells.length := by rw [y.len]; exact hlt
      by_cases hb : x.l[i] = y.l[i]
      · simp only [push_cast, seval, reduceCtorEq, i1, hlt, hb3, gx, gy, zx, zy, hb, bne_self_eq_false, wrap_i64' (show -9223372036854775808 ≤ (i : Int) + 1 ∧ (i : Int) + 1 ≤ 9223372036854775807 by omega)]
        refine ⟨i + 1, ⟨hlt, ?_⟩, by omega, rfl⟩
        rw [List.take_succ_eq_append_getElem lx, List.take_succ_eq_append_getElem ly, ht, hb]
      · have hn : (((x.l[i].toNat : Nat) : Int) != ((y.l[i].toNat : Nat) : Int)) = true := by
          rw [bne_iff_ne]; intro e; exact hb (UInt8.toNat_inj.1 (by omega))
        have e : decide (x.num < y.num) = decide (x.l[i].toNat < y.l[i].toNat) := by
          rw [decide_eq_decide, x.num_eq, y.num_eq]
          exact numB_first hb i (by rw [x.hl, y.hl]) ht (List.getElem?_eq_getElem lx) (List.getElem?_eq_getElem ly)
        simp only [push_cast, seval, reduceCtorEq, i1, hlt, hb3, gx, gy, zx, zy, hn, e]
    · obtain rfl : i = 20 := by omega
      have e : x = y := Ad.ext (by rw [← List.take_of_length_le (Nat.le_of_eq x.hl), ht, List.take_of_length_le (Nat.le_of_eq y.hl)])
      subst e
      simp only [push_cast, seval, reduceCtorEq, Nat.lt_irrefl]
      try simp
end Go.Proofs.YtpcjmmdgopihcaaGreatDoor
set_option linter.unusedSimpArgs false
set_option linter.unusedVariables false
namespace Go.Ev
theorem byteV_injA : ∀ {l m : List UInt8}, byteV l = byteV m → l = m
  | [], [], _ => rfl
  | [], _ :: _, h => by simp [byteV] at h
  | _ :: _, [], h => by simp [byteV] at h
  | x :: l, y :: m, h => by
    simp only [byteV, List.map_cons, List.cons.injEq, Value.int.injEq, true_and] at h
    rw [UInt8.toNat_inj.1 (Int.ofNat_inj.1 h.1), byteV_injA (l := l) (m := m) h.2]
theorem Ad.v_inj {x y : Ad} (h : x.v = y.v) : x = y := by
  unfold Ad.v Ad.cells at h
  injection h with h
  exact Ad.ext (byteV_injA (by simpa using congrArg Array.toList h))
noncomputable def adOf (v : Value) : Option Ad := @dite (Option Ad) (∃ x : Ad, x.v = v) (Classical.propDecidable _) (fun h => some (Classical.choose h)) (fun _ => none)
theorem adOf_v (x : Ad) : adOf x.v = some x := by
  unfold adOf
  rw [dif_pos ⟨x, rfl⟩]
  exact congrArg some (Ad.v_inj (Classical.choose_spec (⟨x, rfl⟩ : ∃ y : Ad, y.v = x.v)))
theorem adOf_some {v : Value} {x : Ad} (h : adOf v = some x) : v = x.v := by
  unfold adOf at h
  split at h
  · rename_i hx
    rw [← Option.some.inj h]
    exact (Classical.choose_spec hx).symm
  · cases h
noncomputable def cmpA : Ad → Ad → Int := hid fun x y => if x.num < y.num then -1 else if y.num < x.num then 1 else 0
theorem cmpA_eq (x y : Ad) : cmpA x y = if x.num < y.num then -1 else if y.num < x.num then 1 else 0 := by unfold cmpA; rw [hid_eq]
noncomputable def lessA : Ad → Ad → Bool := hid fun x y => decide (x.num < y.num)
theorem lessA_eq (x y : Ad) : lessA x y = decide (x.num < y.num) := by unfold lessA; rw [hid_eq]
noncomputable def cmpAG : List Value → Option Value
  | [x, y] => (adOf x).bind fun a => (adOf y).bind fun b => some (.int .i64 (cmpA a b))
  | _ => none
noncomputable def lessAG : List Value → Option Value
  | [x, y] => (adOf x).bind fun a => (adOf y).bind fun b => some (.bool (lessA a b))
  | _ => none
attribute [push_cast] adOf_v cmpAG lessAG
theorem ad2_some {g : Ad → Ad → Value} {args : List Value} {v : Value} (h : (match args with | [x, y] => (adOf x).bind fun a => (adOf y).bind fun b => some (g a b) | _ => none) = some v) : ∃ x y : Ad, args = [x.v, y.v] ∧ v = g x y := by
  split at h
  · rename_i x y
    obtain ⟨a, ha, h⟩ := Option.bind_eq_some_iff.1 h
    obtain ⟨b, hb, h⟩ := Option.bind_eq_some_iff.1 h
    cases h
    exact ⟨a, b, by rw [adOf_some ha, adOf_some hb], rfl⟩
  · cases h
end Go.Ev
namespace Go.Proofs.YtpcjmmdgopihcaaGreatDoor
open Go Go.Ev Go.Proofs
set_option maxRecDepth 100000
set_option maxHeartbeats 4000000
theorem cmpAG_ok (args : List Value) (v : Value) (h : cmpAG args = some v) : CallsV Tryz.prog 32 args [] (Ret0 v) := by
  obtain ⟨x, y, rfl, rfl⟩ := ad2_some (g := fun a b => .int .i64 (cmpA a b)) h
  rw [cmpA_eq, ← cmpL_ad]
  exact order_ok x y
theorem lessAG_ok (args : List Value) (v : Value) (h : lessAG args = some v) : CallsV Tryz.prog 34 args [] (Ret0 v) := by
  obtain ⟨x, y, rfl, rfl⟩ := ad2_some (g := fun a b => .bool (lessA a b)) h
  rw [lessA_eq]
  exact less_ok x y
noncomputable def gA1 : Gam := (addG 34 lessAG (addG 32 cmpAG gA0))
attribute [push_cast] gA1
theorem gA1_ok : GamOk Tryz.prog gA1 := (addG_ok lessAG_ok (addG_ok cmpAG_ok gA0_ok))
end Go.Proofs.YtpcjmmdgopihcaaGreatDoor
set_option linter.unusedSimpArgs false
set_option linter.unusedVariables false
namespace Go.Ev
noncomputable def okAt (l : List Ac) (i : Nat) : Bool := match l[i]? with
  | some x => mayA x && (!emptyA x && (decide (i = 0) || match l[i - 1]? with
    | some y => decide (y.at_.num < x.at_.num)
    | none => true))
  | none => true
noncomputable def rightS (l : List Ac) : Bool := (List.range l.length).all (okAt l) && decide (l.length ≤ 200)
theorem rightS_bad {l : List Ac} {i : Nat} (hi : i < l.length) (h : okAt l i = false) : rightS l = false := by
  unfold rightS
  have : (List.range l.length).all (okAt l) = false := by
    rw [List.all_eq_false]
    exact ⟨i, List.mem_range.2 hi, by simp [h]⟩
  rw [this]; rfl
theorem rightS_end {l : List Ac} (h : ∀ i, i < l.length → okAt l i = true) : rightS l = decide (l.length ≤ 200) := by
  unfold rightS
  have : (List.range l.length).all (okAt l) = true := List.all_eq_true.2 fun i hi => h i (List.mem_range.1 hi)
  rw [this]; rfl
end Go.Ev
namespace Go.Proofs.YtpcjmmdgopihcaaGreatDoor
open Go Go.Ev Go.Proofs
set_option maxRecDepth 100000
set_option maxHeartbeats 4000000
def plSR : Plans := fun i => if i = 3 then [(0, 9)] else if i = 4 then [] else Tryz.pl12 i
attribute [push_cast] plSR
theorem sright_ok {M : Hp} {s : List Ac} {v : Value} (hv : StR s v M) (hm : marksOf M = []) (hn : s.length ≤ 1000000000000) : CallsV Tryz.prog 12 [v] M (Ret0 (.bool (rightS s))) := by
  obtain ⟨L, rfl, hL, hS⟩ := hv
  have hlen : (L.map (·.1)).length = L.length := List.length_map _
  rw [hlen] at hn
  obtain ⟨p, c, rfl, hl⟩ := hL.open acC_len (by decide)
  refine callsO gA1_ok Tryz.mix plSR Tryz.func12 rfl Tryz.ntmps12 Tryz.results12 rfl (by first | rfl | assumption) (Nat.le_of_ble_eq_true rfl) (by kernel_rfl) ?_
  simp only [push_cast, seval, reduceCtorEq]
  refine loopO gA1_ok (pl := plSR) Tryz.mix (X := Nat)
    (fun i => ([(0, .slice p L.length c), (5, .slice p L.length c), (6, .int .i64 L.length), (7, .int .i64 i)], M))
    (fun i => i ≤ L.length ∧ ∀ j, j < i → okAt (L.map (·.1)) j = true) (fun i => L.length - i) 0 ?_ ?_ (by kernel_rfl) ?_
  · exact ⟨Nat.zero_le _, fun j hj => absurd hj (Nat.not_lt_zero _)⟩
  · simp only [push_cast, seval, reduceCtorEq]
    try exact subH_self _
  · rintro i ⟨hi, hok⟩
    dsimp only at hi hok ⊢
    rcases Nat.lt_or_ge i L.length with hlt | hge
    · obtain h0 | ⟨b, f, d, kd, cs, rfl, he, hat, -, -⟩ := hl
      · rw [h0] at hlt; exact absurd hlt (Nat.not_lt_zero _)
      obtain ⟨x, hx⟩ : ∃ x, L[i]? = some x := ⟨L[i], List.getElem?_eq_getElem hlt⟩
      obtain ⟨a1, a2⟩ := hat i x hx 0 27 (by decide)
      rw [List.drop_zero, List.take_of_length_le (Nat.le_of_eq (acC_len x)), Nat.add_zero] at a2
      rw [Nat.add_zero] at a1
      have tk : List.take 27 (acC x) = acC x := List.take_of_length_le (Nat.le_of_eq (acC_len x))
      have dr : ∀ l : List Value, List.drop 27 l = List.drop 27 l := fun _ => rfl
      obtain ⟨sp, sk, hsv, -⟩ := hS x (List.mem_of_getElem? hx)
      have al1 : (acC x).all oneC = true := by
        unfold acC Ac.cells
        rw [hsv, List.all_append, x.1.at_.all1]; rfl
      have i1 : (i : Int) < (L.length : Int) := by omega
      have al : (acC x).length = 27 := acC_len x
      simp only [push_cast, seval, reduceCtorEq, i1, hlt]
      refine regO gA1_ok ?_
      simp only [push_cast, seval, reduceCtorEq, i1, hlt, he, a1, a2, al, tk, al1]
      intro b4 hb4
      have hs4 : derE (⟨b4, 0, .cel 31, acC x⟩ :: M) (roAll M) := derE_behind (L := [_]) (M := M) ⟨hb4, trivial⟩
      have hsx := hS x (List.mem_of_getElem? hx)
      have cmay := may_ok (M := roAll M) (hsx.congr (cellsAt_roAll M).symm) (roAll_ro M).marks
      have cemp := empty_ok (M := roAll M) (hsx.congr (cellsAt_roAll M).symm) (roAll_ro M).marks
      refine drawO gA1_ok Tryz.mix (Tryz.pl12 4) (by kernel_rfl) ?_
      simp only [push_cast, seval, reduceCtorEq, al, al1, tk]
      have hxs : (L.map (·.1))[i]? = some x.1 := by rw [List.getElem?_map, hx]; rfl
      have hls : i < (L.map (·.1)).length := by rw [hlen]; exact hlt
      have bad : okAt (L.map (·.1)) i = false → rightS (L.map (·.1)) = false := rightS_bad hls
      have hok0 : okAt (L.map (·.1)) i = (mayA x.1 && (!emptyA x.1 && (decide (i = 0) || match (L.map (·.1))[i - 1]? with
        | some y => decide (y.at_.num < x.1.at_.num)
        | none => true))) := by unfold okAt; rw [hxs]
      refine TakeV.mk hs4 cmay ?_
      cases hmay : mayA x.1
      · have e := bad (by rw [hok0, hmay]; rfl)
        simp only [push_cast, seval, reduceCtorEq, e]
      simp only [push_cast, seval, reduceCtorEq, al, al1, tk]
      refine TakeV.mk hs4 cemp ?_
      cases hemp : emptyA x.1
      case true =>
        have e := bad (by rw [hok0, hmay, hemp]; rfl)
        simp only [push_cast, seval, reduceCtorEq, e]
      rcases Nat.eq_zero_or_pos i with rfl | hpos
      · have e0 : okAt (L.map (·.1)) 0 = true := by rw [hok0, hmay, hemp]; rfl
        simp only [push_cast, seval, reduceCtorEq, al, al1, tk, Int.lt_irrefl, Nat.lt_irrefl, wrap_i64' (show -9223372036854775808 ≤ (0 : Int) + 1 ∧ (0 : Int) + 1 ≤ 9223372036854775807 by omega)]
        exact ⟨1, ⟨hlt, fun j hj => by rw [Nat.lt_one_iff.1 hj]; exact e0⟩, by omega, rfl, subH_cons hb4⟩
      · obtain ⟨k, rfl⟩ : ∃ k, i = k + 1 := ⟨i - 1, by omega⟩
        have hk : k < L.length := by omega
        obtain ⟨y, hy⟩ : ∃ y, L[k]? = some y := ⟨L[k], List.getElem?_eq_getElem hk⟩
        obtain ⟨y1, y2⟩ := hat k y hy 0 20 (by decide)
        have ya : ∀ z : Ac × Value, List.take 20 (acC z) = z.1.at_.cells := fun z => (z.1.get z.2).1
        rw [List.drop_zero, ya, Nat.add_zero] at y2
        rw [Nat.add_zero] at y1
        have va : ∀ z : Ad, Value.agg z.cells.toArray = z.v := fun _ => rfl
        have hys : (L.map (·.1))[k]? = some y.1 := by rw [List.getElem?_map, hy]; rfl
        have hokk : okAt (L.map (·.1)) (k + 1) = decide (y.1.at_.num < x.1.at_.num) := by
          rw [hok0, hmay, hemp, Nat.add_sub_cancel, hys]
          simp
        have nb : ¬ b = b4 := (fresh_findS hb4 he).2
        have p1 : (0 : Int) < (k : Int) + 1 := by omega
        have p2 : (k : Int) + 1 - 1 = (k : Int) := by omega
        have p3 : (k : Int) < (L.length : Int) := by omega
        by_cases hord : y.1.at_.num < x.1.at_.num
        · have e0 : okAt (L.map (·.1)) (k + 1) = true := by rw [hokk, decide_eq_true hord]
          have ec : cmpA y.1.at_ x.1.at_ = -1 := by rw [cmpA_eq, if_pos hord]
          simp only [push_cast, seval, reduceCtorEq, al, al1, tk, p1, p2, p3, hk, wrap_i64' (show -9223372036854775808 ≤ (k : Int) ∧ (k : Int) ≤ 9223372036854775807 by omega), nb, he, y1, y2, ya, va, ec, wrap_i64' (show -9223372036854775808 ≤ (k : Int) + 1 + 1 ∧ (k : Int) + 1 + 1 ≤ 9223372036854775807 by omega)]
          refine ⟨k + 2, ⟨hlt, fun j hj => ?_⟩, by omega, rfl, subH_cons hb4⟩
          rcases Nat.lt_or_ge j (k + 1) with h | h
          · exact hok j h
          · obtain rfl : j = k + 1 := by omega
            exact e0
        · have e := bad (by rw [hokk, decide_eq_false hord])
          have ec : (0 : Int) ≤ cmpA y.1.at_ x.1.at_ := by rw [cmpA_eq, if_neg hord]; split <;> omega
          simp only [push_cast, seval, reduceCtorEq, al, al1, tk, p1, p2, p3, hk, wrap_i64' (show -9223372036854775808 ≤ (k : Int) ∧ (k : Int) ≤ 9223372036854775807 by omega), nb, he, y1, y2, ya, va, ec, e]
    · obtain rfl : i = L.length := by omega
      have e : rightS (L.map (·.1)) = decide (L.length ≤ 200) := by rw [rightS_end (by rw [hlen]; exact hok), hlen]
      have e2 : decide ((L.length : Int) ≤ 200) = decide (L.length ≤ 200) := by rw [decide_eq_decide]; omega
      simp only [push_cast, seval, reduceCtorEq, Nat.lt_irrefl, Int.lt_irrefl, e, e2]
end Go.Proofs.YtpcjmmdgopihcaaGreatDoor
