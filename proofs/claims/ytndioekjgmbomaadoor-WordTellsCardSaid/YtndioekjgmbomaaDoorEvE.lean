/- EvE: operations that make or write memory, or call; a region in the order of its text; code. -/
import Derived.Test.YtndioekjgmbomaaDoorEvD
set_option linter.unusedSimpArgs false
set_option linter.unusedVariables false
namespace Go.Ev
open Go.RowKit

/-! ### worlds that differ in one block -/
theorem Ent.holds_of {w w' : World} {e : Ent} (h : e.holds w) (hb : w'.heap[e.blk]? = w.heap[e.blk]?) : e.holds w' := by
  have hlt := Ent.lt h
  have hlt' : e.blk < w'.heap.size := by
    rw [Array.getElem?_eq_getElem hlt] at hb
    exact (Array.getElem?_eq_some_iff.1 hb).1
  unfold Ent.holds at h ⊢
  split <;> rename_i hk <;> rw [hk] at h <;> dsimp only at h ⊢
  · refine ⟨hlt', fun k v hk => ?_⟩
    have := h.2 k v hk
    simp only [World.cell?, hb] at this ⊢
    exact this
  · rwa [hb]
  · rwa [hb]
  · rwa [hb]

/-- w' is w but for block b and new blocks -/
structure Turn (b : Nat) (w w' : World) : Prop where
  os : w'.os = w.os
  tape : w'.tape = w.tape
  output : w'.output = w.output
  size : w.heap.size ≤ w'.heap.size
  same : ∀ k, k < w.heap.size → k ≠ b → w'.heap[k]? = w.heap[k]?

section
variable {w0 w w' : World} {mu : Nat → Prop} {H : Hp} {b : Nat}

theorem Sat.old_turn (h : Sat w0 mu H w) (ht : Turn b w w') (hb : mu b ∨ w0.heap.size ≤ b) : ∀ k, k < w0.heap.size → ¬ mu k → w'.heap[k]? = w0.heap[k]? := fun k hk hm => by
  have hne : k ≠ b := by
    rintro rfl
    rcases hb with hb | hb
    · exact hm hb
    · omega
  rw [ht.same k (Nat.lt_of_lt_of_le hk h.size) hne]
  exact h.old k hk hm

def fresh (b : Nat) : Hp → Prop
  | [] => True
  | e :: r => b ≠ e.blk ∧ e.blk ≠ b ∧ fresh b r

theorem fresh_of {b : Nat} : ∀ {H : Hp}, (∀ e ∈ H, e.blk ≠ b) → fresh b H
  | [], _ => trivial
  | e :: r, h => ⟨(h e (by simp)).symm, h e (by simp), fresh_of fun e he => h e (by simp [he])⟩
theorem fresh_ne {b : Nat} : ∀ {H : Hp}, fresh b H → ∀ e ∈ H, e.blk ≠ b
  | [], _, e, he => by cases he
  | x :: r, h, e, he => by
    rcases List.mem_cons.1 he with rfl | he
    · exact h.2.1
    · exact fresh_ne h.2.2 e he

theorem Sat.fresh_size (h : Sat w0 mu H w) : fresh w.heap.size H := fresh_of fun e he => by have := Ent.lt (h.ents e he); omega

/-- a block turned (or new), its new entry put in front of entries of other blocks -/
theorem Sat.front (h : Sat w0 mu H w) (ht : Turn b w w') (hb : mu b ∨ w0.heap.size ≤ b) {e : Ent} (he : e.blk = b) (hh : e.holds w') {H' : Hp} (hsub : ∀ x ∈ H', x ∈ H ∧ x.blk ≠ b) (hap : H'.Pairwise fun e f => (e.wr ∨ f.wr) → e.blk ≠ f.blk) :
    Sat w0 mu (e :: H') w' := by
  refine ⟨ht.os.trans h.os, ht.tape.trans h.tape, ht.output.trans h.output, Nat.le_trans h.size ht.size, h.old_turn ht hb, ?_, ?_, ?_⟩
  · intro x hx
    rcases List.mem_cons.1 hx with rfl | hx
    · exact hh
    · obtain ⟨h1, h2⟩ := hsub x hx
      exact Ent.holds_of (h.ents x h1) (ht.same _ (Ent.lt (h.ents x h1)) h2)
  · intro x hx hw
    rcases List.mem_cons.1 hx with rfl | hx
    · rw [he]; exact hb
    · exact h.own x (hsub x hx).1 hw
  · refine List.pairwise_cons.2 ⟨fun x hx _ => ?_, hap⟩
    rw [he]; exact (hsub x hx).2.symm

theorem Turn.alloc (w : World) (o : Obj) : Turn w.heap.size w (w.alloc o) :=
  ⟨rfl, rfl, rfl, by simp, fun k hk _ => Below.heap_alloc w o k hk⟩

theorem Sat.alloc (h : Sat w0 mu H w) {e : Ent} (he : e.blk = w.heap.size) {o : Obj} (hh : e.holds (w.alloc o)) : Sat w0 mu (e :: H) (w.alloc o) :=
  h.front (Turn.alloc w o) (.inr h.size) he hh (fun x hx => ⟨hx, by have := Ent.lt (h.ents x hx); omega⟩) h.apart

/-- one more draw -/
theorem Sat.drew (h : Sat w0 mu H w) : Sat w0 mu H { w with drawn := w.drawn + 1 } :=
  ⟨h.os, h.tape, h.output, h.size, h.old, fun e he => Ent.holds_of (h.ents e he) rfl, h.own, h.apart⟩

def updE : Hp → Nat → List Value → Hp
  | [], _, _ => []
  | e :: r, b, cs => if b = e.blk then { e with cells := cs } :: r else e :: updE r b cs

theorem marks_updE : ∀ (H : Hp) (b : Nat) (cs : List Value), marksOf (updE H b cs) = marksOf H
  | [], _, _ => rfl
  | e :: r, b, cs => by
    simp only [updE]
    split
    · rfl
    · simp only [marksOf, marks_updE r b cs]

theorem mem_updE : ∀ {H : Hp} {b : Nat} {cs : List Value} {x : Ent}, x ∈ updE H b cs → x ∈ H ∨ ∃ e, findE H b = some e ∧ x = { e with cells := cs }
  | [], _, _, x, h => by cases h
  | e :: r, b, cs, x, h => by
    simp only [updE] at h
    by_cases hb : b = e.blk
    · rw [if_pos hb] at h
      rcases List.mem_cons.1 h with rfl | h
      · exact .inr ⟨e, by simp [findE, hb], rfl⟩
      · exact .inl (by simp [h])
    · rw [if_neg hb] at h
      rcases List.mem_cons.1 h with rfl | h
      · exact .inl (by simp)
      · rcases mem_updE h with h | ⟨e', h1, h2⟩
        · exact .inl (by simp [h])
        · exact .inr ⟨e', by simp [findE, hb, h1], h2⟩

theorem updE_blks : ∀ (H : Hp) (b : Nat) (cs : List Value), (H.Pairwise fun e f => (e.wr ∨ f.wr) → e.blk ≠ f.blk) → (updE H b cs).Pairwise fun e f => (e.wr ∨ f.wr) → e.blk ≠ f.blk
  | [], _, _, h => h
  | e :: r, b, cs, h => by
    obtain ⟨h1, h2⟩ := List.pairwise_cons.1 h
    simp only [updE]
    split
    · exact List.pairwise_cons.2 ⟨fun x hx => h1 x hx, h2⟩
    · refine List.pairwise_cons.2 ⟨fun x hx => ?_, updE_blks r b cs h2⟩
      rcases mem_updE hx with hx | ⟨e', he', rfl⟩
      · exact h1 x hx
      · exact h1 e' (findE_mem he').1

/-- a block turned in place -/
theorem Sat.upd (h : Sat w0 mu H w) (ht : Turn b w w') {e : Ent} (he : findE H b = some e) (hw : e.wr) {cs : List Value} (hh : ({ e with cells := cs } : Ent).holds w') : Sat w0 mu (updE H b cs) w' := by
  obtain ⟨hm, hb⟩ := findE_mem he
  have hbb : mu b ∨ w0.heap.size ≤ b := by rw [← hb]; exact h.own e hm hw
  -- entries of the same block: e alone
  have huniq : ∀ x ∈ updE H b cs, x = { e with cells := cs } ∨ (x ∈ H ∧ x.blk ≠ b) := by
    have key : ∀ (L : Hp), (L.Pairwise fun e f => (e.wr ∨ f.wr) → e.blk ≠ f.blk) → findE L b = some e → ∀ x ∈ updE L b cs, x = { e with cells := cs } ∨ (x ∈ L ∧ x.blk ≠ b) := by
      intro L
      induction L with
      | nil => intro _ h; simp [findE] at h
      | cons y L ih =>
        intro hp hf x hx
        obtain ⟨h1, h2⟩ := List.pairwise_cons.1 hp
        simp only [findE, updE] at hf hx
        by_cases hy : b = y.blk
        · rw [if_pos hy] at hf hx
          cases hf
          rcases List.mem_cons.1 hx with rfl | hx
          · exact .inl rfl
          · exact .inr ⟨by simp [hx], fun e => h1 x hx (.inl hw) (by rw [← hy, e])⟩
        · rw [if_neg hy] at hf hx
          rcases List.mem_cons.1 hx with rfl | hx
          · exact .inr ⟨by simp, fun e => hy e.symm⟩
          · rcases ih h2 hf x hx with h | ⟨h, h'⟩
            · exact .inl h
            · exact .inr ⟨by simp [h], h'⟩
    exact key H h.apart he
  refine ⟨ht.os.trans h.os, ht.tape.trans h.tape, ht.output.trans h.output, Nat.le_trans h.size ht.size, h.old_turn ht hbb, ?_, ?_, updE_blks H b cs h.apart⟩
  · intro x hx
    rcases huniq x hx with rfl | ⟨h1, h2⟩
    · exact hh
    · exact Ent.holds_of (h.ents x h1) (ht.same _ (Ent.lt (h.ents x h1)) h2)
  · intro x hx hxw
    rcases huniq x hx with rfl | ⟨h1, h2⟩
    · show mu e.blk ∨ _; rw [hb]; exact hbb
    · exact h.own x h1 hxw

/-- forget entries -/
theorem Sat.weak (h : Sat w0 mu H w) {H' : Hp} (hs : H'.Sublist H) : Sat w0 mu H' w :=
  ⟨h.os, h.tape, h.output, h.size, h.old, fun e he => h.ents e (hs.subset he), fun e he => h.own e (hs.subset he), h.apart.sublist hs⟩

def remE : Hp → Nat → Hp
  | [], _ => []
  | e :: r, b => if b = e.blk then r else e :: remE r b
theorem remE_sub : ∀ (H : Hp) (b : Nat), (remE H b).Sublist H
  | [], _ => List.Sublist.refl _
  | e :: r, b => by
    simp only [remE]
    split
    · exact List.sublist_cons_self e r
    · exact (remE_sub r b).cons_cons e
theorem remE_ne {e : Ent} (hw : e.wr) : ∀ {H : Hp}, (H.Pairwise fun e f => (e.wr ∨ f.wr) → e.blk ≠ f.blk) → findE H b = some e → ∀ x ∈ remE H b, x.blk ≠ b
  | [], _, h, _, _ => by simp [findE] at h
  | y :: L, hp, hf, x, hx => by
    obtain ⟨h1, h2⟩ := List.pairwise_cons.1 hp
    simp only [findE, remE] at hf hx
    by_cases hy : b = y.blk
    · rw [if_pos hy] at hf hx
      cases hf
      exact fun e => h1 x hx (.inl hw) (by rw [← hy, e])
    · rw [if_neg hy] at hf hx
      rcases List.mem_cons.1 hx with rfl | hx
      · exact fun e => hy e.symm
      · exact remE_ne hw h2 hf x hx
end

/-! ### stores -/
def oneC : Value → Bool
  | .agg _ => false
  | .tuple _ => false
  | _ => true
theorem oneC_eq {v : Value} (h : oneC v = true) : v.oneCell' = true := by cases v <;> simp [oneC] at h <;> rfl

theorem run_storeRow {P : Program} {b o : Nat} {t : TypeId} : ∀ (vs : List Value) (i : Nat) (cs : Array Value) (w : World), w.heap[b]? = some (.cells cs t (0, 0)) → o + i + vs.length ≤ cs.size →
    vs.all oneC = true → ∃ w', (storeCells ⟨b, o, none⟩ vs i).run P w = .ok () w' ∧ Turn b w w' ∧ w'.heap[b]? = some (.cells (setSeg cs.toList (o + i) vs).toArray t (0, 0))
  | [], i, cs, w, hb, hl, _ => ⟨w, by simp [storeCells], ⟨rfl, rfl, rfl, Nat.le_refl _, fun _ _ _ => rfl⟩, by rw [hb]; simp [setSeg]⟩
  | v :: vs, i, cs, w, hb, hl, hv => by
    simp only [List.all_cons, Bool.and_eq_true] at hv
    simp only [List.length_cons] at hl
    have hlt : o + i < cs.size := by omega
    have hcell : w.cell? ⟨b, o + i, none⟩ = some cs[o + i] := by simp [World.cell?, hb, hlt]
    have hfz : w.frozen? ⟨b, o + i, none⟩ = false := by simp [World.frozen?, hb]
    have hb1 : (w.setCell ⟨b, o + i, none⟩ v).heap[b]? = some (.cells (cs.setIfInBounds (o + i) v) t (0, 0)) := by
      simp [World.setCell, Array.getElem?_modify, hb]
    obtain ⟨w', h1, h2, h3⟩ := run_storeRow (P := P) (o := o) vs (i + 1) (cs.setIfInBounds (o + i) v) (w.setCell ⟨b, o + i, none⟩ v) hb1 (by simp only [Array.size_setIfInBounds]; omega) hv.2
    refine ⟨w', ?_, ?_, ?_⟩
    · rw [storeCells]
      simp only [Sem.run_bind, add_mk]
      rw [run_store P w _ v .plain (oneC_eq hv.1)]
      simp only [hcell, hfz, Bool.false_eq_true, if_false, Result.andThen_ok]
      exact h1
    · have hsz : (w.setCell ⟨b, o + i, none⟩ v).heap.size = w.heap.size := by simp [World.setCell]
      refine ⟨h2.os, h2.tape, h2.output, by rw [← hsz]; exact h2.size, fun k hk hne => ?_⟩
      rw [h2.same k (by rw [hsz]; exact hk) hne]
      simp [World.setCell, Array.getElem?_modify, Ne.symm hne]
    · rw [h3]
      congr 2
      simp only [setSeg, Array.toList_setIfInBounds, List.length_cons, List.append_assoc]
      rw [show o + (i + 1) = o + i + 1 by omega]
      rw [List.take_succ_eq_append_getElem (by simpa using hlt)]
      simp only [List.getElem_set_self, List.append_assoc, List.cons_append, List.nil_append]
      rw [List.take_set_of_le (Nat.le_refl _), List.drop_set_of_lt (by omega)]
      rw [show o + i + 1 + vs.length = o + i + (vs.length + 1) by omega]

/-- the heap behind a store -/
def storeV (P : Program) (H : Hp) (t : TypeId) (p v : Value) : Option Hp :=
  match p with
  | .pointer (some ⟨b, o, none⟩) => match findE H b, tyI P t with
    | some e, some (s, _) => match e.kind with
      | .cel _ => if v.cells.toList.length = s ∧ o + s ≤ e.cells.length ∧ v.cells.toList.all oneC = true then some (updE H b (setSeg e.cells o v.cells.toList)) else none
      | .vec _ _ _ => if v.cells.toList.length = s ∧ o + s ≤ e.cells.length ∧ v.cells.toList.all oneC = true then some (updE H b (setSeg e.cells o v.cells.toList)) else none
      | _ => none
    | _, _ => none
  | _ => none

theorem setSeg_length {l vs : List Value} {o : Nat} (h : o + vs.length ≤ l.length) : (setSeg l o vs).length = l.length := by
  simp [setSeg]; omega

theorem setSeg_get {l vs : List Value} {o : Nat} (h : o + vs.length ≤ l.length) (k : Nat) : (setSeg l o vs)[k]? = if o ≤ k ∧ k < o + vs.length then vs[k - o]? else l[k]? := by
  unfold setSeg
  by_cases h1 : k < o
  · rw [if_neg (by omega), List.append_assoc, List.getElem?_append_left (by simp; omega), List.getElem?_take]
    simp [h1]
  · by_cases h2 : k < o + vs.length
    · rw [if_pos ⟨by omega, h2⟩, List.getElem?_append_left (by simp; omega), List.getElem?_append_right (by simp; omega)]
      congr 1; simp; omega
    · rw [if_neg (by omega), List.getElem?_append_right (by simp; omega), List.getElem?_drop]
      congr 1; simp; omega

theorem Sat.storeV {P : Program} {w0 w : World} {mu : Nat → Prop} {H H' : Hp} (h : Sat w0 mu H w) {t : TypeId} {p v : Value} (hs : storeV P H t p v = some H') :
    ∃ w', (Instr.storeAt t p v).run P w = .ok () w' ∧ Sat w0 mu H' w' ∧ marksOf H' = marksOf H := by
  unfold Ev.storeV at hs
  split at hs
  case h_2 => cases hs
  rename_i b o
  split at hs
  case h_2 => cases hs
  rename_i e s ag he hty
  obtain ⟨_, hsz⟩ := isAgg_of (w := w) hty
  obtain ⟨hm, hb⟩ := findE_mem he
  have hh := h.ents e hm
  have run0 : ∀ w', v.cells.toList.length = s → (storeCells ⟨b, o, none⟩ v.cells.toList 0).run P w = .ok () w' → (Instr.storeAt t (.pointer (some ⟨b, o, none⟩)) v).run P w = .ok () w' := fun w' hl hr => by
    have : v.cells.size = s := by simpa using hl
    simp [Instr.storeAt, Instr.sureAddr, storeVar, hsz, this, hr]
  split at hs
  · rename_i te hk
    split at hs
    case isFalse => cases hs
    rename_i hc
    cases hs
    unfold Ent.holds at hh
    rw [hk] at hh; dsimp only at hh
    rw [hb] at hh
    obtain ⟨w', h1, h2, h3⟩ := run_storeRow (P := P) (o := o) v.cells.toList 0 _ w hh.2 (by rw [List.size_toArray, Nat.add_zero, hc.1]; exact hc.2.1) hc.2.2
    refine ⟨w', run0 w' hc.1 h1, h.upd h2 he (by unfold Ent.wr; rw [hk]; trivial) ?_, marks_updE _ _ _⟩
    unfold Ent.holds
    dsimp only
    rw [hk]
    exact ⟨hh.1, by rw [hb, h3]; simp⟩
  · rename_i te se cap hk
    split at hs
    case isFalse => cases hs
    rename_i hc
    cases hs
    unfold Ent.holds at hh
    rw [hk] at hh; dsimp only at hh
    rw [hb] at hh
    obtain ⟨h0, cs, hcs, hsize, hle, hpre⟩ := hh
    have hin : o + v.cells.toList.length ≤ cs.toList.length := by rw [hc.1, Array.length_toList]; omega
    have hin2 : o + v.cells.toList.length ≤ e.cells.length := by rw [hc.1]; exact hc.2.1
    obtain ⟨w', h1, h2, h3⟩ := run_storeRow (P := P) (o := o) v.cells.toList 0 cs w hcs (by simpa using hin) hc.2.2
    refine ⟨w', run0 w' hc.1 h1, h.upd h2 he (by unfold Ent.wr; rw [hk]; trivial) ?_, marks_updE _ _ _⟩
    unfold Ent.holds
    dsimp only
    rw [hk]
    refine ⟨h0, _, by rw [hb, h3], by rw [List.size_toArray, Nat.add_zero, setSeg_length hin]; simpa using hsize, by rw [setSeg_length hin2]; exact hle, fun k u hku => ?_⟩
    rw [List.getElem?_toArray, Nat.add_zero, setSeg_get hin]
    rw [setSeg_get hin2] at hku
    split
    · rename_i hr; rw [if_pos hr] at hku; exact hku
    · rename_i hr; rw [if_neg hr] at hku; simpa using hpre k u hku
  · cases hs
end Go.Ev
