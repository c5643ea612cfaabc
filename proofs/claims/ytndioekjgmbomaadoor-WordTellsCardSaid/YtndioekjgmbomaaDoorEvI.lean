/- EvI: a function's contract from its body; a contract at its use; a loop. -/
import Derived.Test.YtndioekjgmbomaaDoorEvH
set_option linter.unusedSimpArgs false
set_option linter.unusedVariables false
namespace Go.Ev
open Go.RowKit

def isMark (e : Ent) : Bool := match e.kind with
  | .obj (.deferred (some [])) => true
  | _ => false
def dropM : Hp → Hp
  | [] => []
  | e :: r => match e.kind with
    | .obj (.deferred (some [])) => dropM r
    | _ => e :: dropM r

theorem dropM_sub : ∀ (H : Hp), (dropM H).Sublist H
  | [] => List.Sublist.refl _
  | e :: r => by
    simp only [dropM]
    split
    · exact (dropM_sub r).trans (List.sublist_cons_self e r)
    · exact (dropM_sub r).cons_cons e
theorem marks_dropM : ∀ (H : Hp), marksOf (dropM H) = []
  | [] => rfl
  | e :: r => by
    simp only [dropM]
    split
    · exact marks_dropM r
    · rename_i h1
      simp only [marksOf]
      exact marks_dropM r
theorem dropM_eq : ∀ {H : Hp}, marksOf H = [] → dropM H = H
  | [], _ => rfl
  | e :: r, h => by
    simp only [marksOf] at h
    simp only [dropM]
    split at h
    · cases h
    · rw [dropM_eq h]
      split
      · exfalso; simp_all
      · rfl
theorem marks_sub : ∀ {H H' : Hp}, H'.Sublist H → marksOf H = [] → marksOf H' = [] := by
  intro H H' h
  induction h with
  | slnil => exact id
  | cons a _ ih =>
    intro hm; simp only [marksOf] at hm
    split at hm
    · cases hm
    · exact ih hm
  | cons_cons a _ ih =>
    intro hm; simp only [marksOf] at hm ⊢
    split at hm
    · cases hm
    · exact ih hm

theorem first_mark {m : Nat} {ms : List Nat} : ∀ {H : Hp}, (H.Pairwise fun e f => (e.wr ∨ f.wr) → e.blk ≠ f.blk) → marksOf H = m :: ms →
    ∃ e, findE H m = some e ∧ e.kind = .obj (.deferred (some [])) ∧ marksOf (remE H m) = ms ∧ dropM (remE H m) = dropM H
  | [], _, h => by simp [marksOf] at h
  | x :: r, hp, h => by
    obtain ⟨h1, h2⟩ := List.pairwise_cons.1 hp
    simp only [marksOf] at h
    split at h
    · rename_i hk
      injection h with hm hms
      subst hm
      exact ⟨x, by simp [findE], hk, by simp [remE, hms], by simp [remE, dropM, hk]⟩
    · rename_i hk
      obtain ⟨e, he, hek, hm1, hd1⟩ := first_mark h2 h
      obtain ⟨hmem, hb⟩ := findE_mem he
      have hne : ¬ m = x.blk := by
        rw [← hb]
        exact fun hh => h1 e hmem (.inr (by unfold Ent.wr; rw [hek]; trivial)) hh.symm
      refine ⟨e, by simp [findE, hne, he], hek, ?_, ?_⟩
      · simp only [remE, if_neg hne, marksOf]
        exact hm1
      · simp only [remE, if_neg hne, dropM]
        rw [hd1]

theorem Sat.turn_drop {w0 w w' : World} {mu : Nat → Prop} {H H' : Hp} {b : Nat} (h : Sat w0 mu H w) (ht : Turn b w w') (hb : mu b ∨ w0.heap.size ≤ b) (hs : H'.Sublist H) (hne : ∀ x ∈ H', x.blk ≠ b) : Sat w0 mu H' w' :=
  ⟨ht.os.trans h.os, ht.tape.trans h.tape, ht.output.trans h.output, Nat.le_trans h.size ht.size, h.old_turn ht hb,
   fun e he => Ent.holds_of (h.ents e (hs.subset he)) (ht.same _ (Ent.lt (h.ents e (hs.subset he))) (hne e he)), fun e he => h.own e (hs.subset he), h.apart.sublist hs⟩

theorem leaves_marks {P : Program} {fn : Func} {tmps : Array Value} {R : Ending → World → Prop} {w0 : World} {mu : Nat → Prop} : ∀ (k : Nat) (H : Hp) (w : World), (marksOf H).length = k → Sat w0 mu H w →
    (∀ w', Sat w0 mu (dropM H) w' → ∃ v, (results fn tmps).run P w' = .ok v w' ∧ R (.returned v) w') → LeavesInM (Fr none) 0 P fn tmps R (defersOf H) .returning w
  | 0, H, w, hk, hs, h => by
    have hm : marksOf H = [] := List.eq_nil_of_length_eq_zero hk
    rw [dropM_eq hm] at h
    simp only [defersOf, hm, List.map_nil]
    obtain ⟨v, h1, h2⟩ := h w hs
    exact ⟨v, h1, h2⟩
  | k + 1, H, w, hk, hs, h => by
    cases hm : marksOf H with
    | nil => rw [hm] at hk; cases hk
    | cons m ms =>
      obtain ⟨e, he, hek, hm1, hd1⟩ := first_mark hs.apart hm
      obtain ⟨hmem, hb⟩ := findE_mem he
      have hh := hs.ents e hmem
      unfold Ent.holds at hh
      rw [hek] at hh
      dsimp only at hh
      rw [hb] at hh
      have hw : e.wr := by unfold Ent.wr; rw [hek]; trivial
      have ht : Turn m w (w.putObj m (.deferred none)) := ⟨rfl, rfl, rfl, by simp [World.putObj], fun j hj hne => by simp [World.putObj, Array.getElem?_setIfInBounds_ne (Ne.symm hne)]⟩
      simp only [defersOf, hm, List.map_cons]
      refine ⟨by simp, .inl ⟨m, _, rfl, run_takeDeferred hh.2.1, ?_⟩⟩
      have hs' : Sat w0 mu (remE H m) (w.putObj m (.deferred none)) :=
        hs.turn_drop ht (by rw [← hb]; exact hs.own e hmem hw) (remE_sub H m) (remE_ne hw hs.apart he)
      have := leaves_marks k (remE H m) _ (by rw [hm1]; rw [hm] at hk; simpa using hk) hs' (by rw [hd1]; exact h)
      simpa [defersOf, hm1] using this

def resV (P : Program) (T : Tm) (H : Hp) : ResultVar → Option Value
  | .tmp t => getT T t
  | .cell a t => (getT T a).bind fun p => loadV P H t p
def resOf : List Value → Value
  | [v] => v
  | vs => .tuple vs.toArray

def retK (P : Program) (rs : List ResultVar) (K : Value → Hp → Prop) : Exit → Tm → Hp → Prop
  | .normal, T, H => match optL (rs.map (resV P T (dropM H))) with
    | some vs => ∃ H', H'.Sublist (dropM H) ∧ K (resOf vs) H'
    | none => False
  | .ret, T, H => match optL (rs.map (resV P T (dropM H))) with
    | some vs => ∃ H', H'.Sublist (dropM H) ∧ K (resOf vs) H'
    | none => False
  | _, _, _ => False

theorem run_results {P : Program} {fn : Func} {n : Nat} {T : Tm} {H : Hp} {a : Act} {w0 w : World} {mu : Nat → Prop} (ht : TRel n T a) (hs : Sat w0 mu H w) {vs : List Value} (h : optL (fn.results.toList.map (resV P T H)) = some vs) :
    (results fn a.tmps).run P w = .ok (resOf vs) w := by
  have key : ∀ (l : List ResultVar) (vs : List Value), optL (l.map (resV P T H)) = some vs → (l.mapM (fun | .tmp t => pure (a.tmps.getD t undef) | .cell p t => do loadVar t (← asAddr (a.tmps.getD p undef)) : ResultVar → Sem Value)).run P w = .ok vs w := by
    intro l
    induction l with
    | nil => intro vs h; simp only [List.map_nil, optL, Option.some.injEq] at h; subst h; simp
    | cons x l ih =>
      intro vs h
      simp only [List.map_cons, optL] at h
      cases hx : resV P T H x with
      | none => simp [hx] at h
      | some v =>
        simp only [hx, Option.bind_some, Option.map_eq_some_iff] at h
        obtain ⟨r, hr, rfl⟩ := h
        have h2 := ih r hr
        rw [List.mapM_cons]
        cases x with
        | tmp t =>
          have : a.tmps.getD t undef = v := by simp [Array.getD_eq_getD_getElem?, ht.get t v hx]
          simp only [Sem.run_bind, Sem.run_pure, Result.andThen_ok, this, h2]
        | cell p t =>
          simp only [resV, Option.bind_eq_some_iff] at hx
          obtain ⟨pv, hp, hl⟩ := hx
          have hpv : a.tmps.getD p undef = pv := by simp [Array.getD_eq_getD_getElem?, ht.get p pv hp]
          have hld := run_loadV hs hl
          have : ∃ ad, pv = .pointer (some ad) := by
            unfold loadV at hl
            split at hl
            · exact ⟨_, rfl⟩
            · cases hl
          obtain ⟨ad, rfl⟩ := this
          simp only [Instr.loadAt, Instr.sureAddr, Sem.run_bind, Sem.run_pure, Result.andThen_ok] at hld
          have hc : (do loadVar t (← asAddr (a.tmps.getD p undef)) : Sem Value).run P w = .ok v w := by simp [hpv, asAddr, hld]
          rw [Sem.run_bind]
          show Result.andThen (Sem.run P (do loadVar t (← asAddr (a.tmps.getD p undef))) w) _ = _
          rw [hc, Result.andThen_ok, Sem.run_bind, h2]
          rfl
  unfold results
  rw [Sem.run_bind, Array.mapM_eq_mapM_toList, Sem.run_map]
  have := key fn.results.toList vs h
  erw [this]
  simp only [Result.andThen_ok, Sem.run_pure]
  congr 1
  match vs with
  | [] => rfl
  | [v] => rfl
  | v :: v' :: l => simp [resOf]

def initT (k : Nat) : List Value → Tm
  | [] => []
  | v :: r => (k, v) :: initT (k + 1) r

theorem getT_initT : ∀ (vs : List Value) (k i : Nat) (v : Value), getT (initT k vs) i = some v → k ≤ i ∧ vs[i - k]? = some v
  | [], k, i, v, h => by simp [initT, getT] at h
  | x :: r, k, i, v, h => by
    simp only [initT, getT] at h
    by_cases hik : i = k
    · rw [if_pos hik] at h; cases h; subst hik; simp
    · rw [if_neg hik] at h
      obtain ⟨h1, h2⟩ := getT_initT r (k + 1) i v h
      refine ⟨by omega, ?_⟩
      rw [show i - k = (i - (k + 1)) + 1 by omega]
      simpa using h2

/-! ### a contract at its use -/
def freshN : Hp → Hp → Prop
  | [], _ => True
  | e :: r, H => fresh e.blk H ∧ freshN r H
def allWr : Hp → Prop
  | [] => True
  | e :: r => e.wr ∧ allWr r
theorem allWr_mem : ∀ {N : Hp}, allWr N → ∀ e ∈ N, e.wr
  | [], _, e, he => by cases he
  | x :: r, h, e, he => by
    rcases List.mem_cons.1 he with rfl | he
    · exact h.1
    · exact allWr_mem h.2 e he
def derE (H : Hp) : Hp → Prop
  | [] => True
  | e :: r => (e.kind = .ro ∧ cellsAt H e.blk e.off e.cells.length = some e.cells) ∧ derE H r

theorem derE_mem {H : Hp} : ∀ {L : Hp}, derE H L → ∀ e ∈ L, e.kind = .ro ∧ cellsAt H e.blk e.off e.cells.length = some e.cells
  | [], _, e, he => by cases he
  | x :: r, h, e, he => by
    rcases List.mem_cons.1 he with rfl | he
    · exact h.1
    · exact derE_mem h.2 e he

theorem marks_append : ∀ (A B : Hp), marksOf (A ++ B) = marksOf A ++ marksOf B
  | [], B => rfl
  | e :: r, B => by
    simp only [List.cons_append, marksOf]
    split
    · rw [marks_append r B]; rfl
    · exact marks_append r B

theorem freshN_of {H : Hp} : ∀ {N : Hp}, (∀ e ∈ N, ∀ x ∈ H, x.blk ≠ e.blk) → freshN N H
  | [], _ => trivial
  | e :: r, h => ⟨fresh_of (h e (by simp)), freshN_of fun e he => h e (by simp [he])⟩

/-- **A contract over memory that it only reads, used where more is known.** -/
theorem CallsV.use {P : Program} {g : FuncId} {args : List Value} {Hf H : Hp} {K K' : Value → Hp → Prop} (hc : CallsV P g args Hf K) (hd : derE H Hf)
    (hk : ∀ v N, K v N → allWr N ∧ marksOf N = [] ∧ (freshN N H → K' v (N ++ H))) : CallsV P g args H K' := by
  refine ⟨hc.1, fun w0 mu w hs => ?_⟩
  have hder := derE_mem hd
  have hro : ∀ e ∈ Hf, ¬ e.wr := fun e he hw => by unfold Ent.wr at hw; rw [(hder e he).1] at hw; exact hw
  have hmf : marksOf Hf = [] := by
    have : ∀ L : Hp, (∀ e ∈ L, e.kind = .ro) → marksOf L = [] := by
      intro L
      induction L with
      | nil => intro _; rfl
      | cons x r ih => intro h; simp only [marksOf, h x (by simp)]; exact ih fun e he => h e (by simp [he])
    exact this Hf fun e he => (hder e he).1
  have hsf : Sat w (fun _ => False) Hf w := by
    refine ⟨rfl, rfl, rfl, Nat.le_refl _, fun _ _ _ => rfl, fun e he => ?_, fun e he hw => absurd hw (hro e he), ?_⟩
    · obtain ⟨h1, h2⟩ := hder e he
      unfold Ent.holds
      rw [h1]
      dsimp only
      refine ⟨?_, (hs.cellsAt h2).2⟩
      unfold cellsAt at h2
      split at h2
      · rename_i e' he'
        obtain ⟨hm, hb⟩ := findE_mem he'
        rw [← hb]; exact Ent.lt (hs.ents e' hm)
      · cases h2
    · exact List.pairwise_iff_forall_sublist.2 fun {a b} hab => by
        intro hw
        rcases hw with hw | hw
        · exact absurd hw (hro a (hab.subset (by simp)))
        · exact absurd hw (hro b (hab.subset (by simp)))
  refine (hc.2 w (fun _ => False) w hsf).mono ?_
  rintro e w' ⟨v, N, rfl, hK, hsN, hmN⟩
  obtain ⟨hw, hmN0, hk'⟩ := hk v N hK
  have hge : ∀ e ∈ N, w.heap.size ≤ e.blk := fun e he => (hsN.own e he (allWr_mem hw e he)).resolve_left id
  have hne : ∀ e ∈ N, ∀ x ∈ H, x.blk ≠ e.blk := fun e he x hx => by have := hge e he; have := Ent.lt (hs.ents x hx); omega
  refine ⟨v, N ++ H, rfl, hk' (freshN_of hne), ⟨hsN.os.trans hs.os, hsN.tape.trans hs.tape, hsN.output.trans hs.output, Nat.le_trans hs.size hsN.size, ?_, ?_, ?_, ?_⟩, ?_⟩
  · intro b hb hm
    rw [hsN.old b (Nat.lt_of_lt_of_le hb hs.size) id]
    exact hs.old b hb hm
  · intro x hx
    rcases List.mem_append.1 hx with hx | hx
    · exact hsN.ents x hx
    · exact Ent.holds_of (hs.ents x hx) (hsN.old _ (Ent.lt (hs.ents x hx)) id)
  · intro x hx hxw
    rcases List.mem_append.1 hx with hx | hx
    · exact .inr (Nat.le_trans hs.size (hge x hx))
    · exact hs.own x hx hxw
  · refine List.pairwise_append.2 ⟨hsN.apart, hs.apart, fun x hx y hy _ => (hne x hx y hy).symm⟩
  · rw [marks_append, hmN0]; rfl

/-- **A contract whose answer is a plain value.** -/
theorem CallsV.pure {P : Program} {g : FuncId} {args : List Value} {Hf H : Hp} {v : Value} {K' : Value → Hp → Prop} (hc : CallsV P g args Hf (Ret0 v)) (hd : derE H Hf) (hk : K' v H) : CallsV P g args H K' :=
  hc.use hd (by rintro u N ⟨rfl, rfl⟩; exact ⟨trivial, rfl, fun _ => hk⟩)

theorem ret0_ex (v u : Value) (H : Hp) : (∃ H', List.Sublist H' H ∧ Ret0 v u H') = (u = v) := by
  apply propext
  constructor
  · rintro ⟨H', _, h, _⟩; exact h
  · rintro rfl; exact ⟨[], List.nil_sublist _, rfl, rfl⟩

/-! ### loops -/
def subT (T : Tm) : Tm → Prop
  | [] => True
  | (k, v) :: r => getT T k = some v ∧ subT T r
def subH : Hp → Hp → Prop
  | _, [] => True
  | H, e :: r => findE H e.blk = some e ∧ subH (remE H e.blk) r

theorem subT_get {T : Tm} : ∀ {T' : Tm}, subT T T' → ∀ k v, getT T' k = some v → getT T k = some v
  | [], _, k, v, h => by simp [getT] at h
  | (j, u) :: r, hs, k, v, h => by
    simp only [getT] at h
    by_cases hk : k = j
    · rw [if_pos hk] at h; cases h; subst hk; exact hs.1
    · rw [if_neg hk] at h; exact subT_get hs.2 k v h

theorem TRel.sub {n : Nat} {T T' : Tm} {a : Act} (h : TRel n T a) (hs : subT T T') : TRel n T' a :=
  ⟨h.size, fun k v hk => h.get k v (subT_get hs k v hk)⟩

theorem Sat.sub {w0 w : World} {mu : Nat → Prop} : ∀ {H' H : Hp}, Sat w0 mu H w → subH H H' → Sat w0 mu H' w
  | [], H, h, _ => h.weak (List.nil_sublist H)
  | e :: r, H, h, hs => by
    obtain ⟨h1, h2⟩ := hs
    obtain ⟨hm, _⟩ := findE_mem h1
    have hr := Sat.sub (h.weak (remE_sub H e.blk)) h2
    have hmem : ∀ (L : Hp) {M : Hp}, subH M L → ∀ x ∈ L, x ∈ M := by
      intro L
      induction L with
      | nil => intro M _ x hx; cases hx
      | cons y L ih =>
        intro M hM x hx
        rcases List.mem_cons.1 hx with rfl | hx
        · exact (findE_mem hM.1).1
        · exact (remE_sub M _).subset (ih hM.2 x hx)
    refine ⟨h.os, h.tape, h.output, h.size, h.old, ?_, ?_, List.pairwise_cons.2 ⟨fun x hx hw => ?_, hr.apart⟩⟩
    · intro x hx
      rcases List.mem_cons.1 hx with rfl | hx
      · exact h.ents x hm
      · exact hr.ents x hx
    · intro x hx
      rcases List.mem_cons.1 hx with rfl | hx
      · exact h.own x hm
      · exact hr.own x hx
    · have hxm := hmem r h2 x hx
      -- e stands in H, x in what is left
      have key : ∀ (L : Hp), (L.Pairwise fun e f => (e.wr ∨ f.wr) → e.blk ≠ f.blk) → findE L e.blk = some e → ∀ x ∈ remE L e.blk, (e.wr ∨ x.wr) → e.blk ≠ x.blk := by
        intro L
        induction L with
        | nil => intro _ hf; simp [findE] at hf
        | cons y L ih =>
          intro hp hf x hx hw
          obtain ⟨p1, p2⟩ := List.pairwise_cons.1 hp
          simp only [findE, remE] at hf hx
          by_cases hy : e.blk = y.blk
          · rw [if_pos hy] at hf hx
            cases hf
            exact p1 x hx hw
          · rw [if_neg hy] at hf hx
            rcases List.mem_cons.1 hx with rfl | hx
            · exact hy
            · exact ih p2 hf x hx hw
      exact key H h.apart h1 x hxm hw

/-- what is known behind a round, as what the loop's head wants -/
def SubS (T : Tm) (H : Hp) (s : Tm × Hp) : Prop := subT T s.1 ∧ subH H s.2 ∧ marksOf s.2 = marksOf H

theorem WpV.sub {P : Program} {r : Option Nat} {n : Nat} {c : Code} {K : Exit → Tm → Hp → Prop} {T : Tm} {H : Hp} {s : Tm × Hp} (hs : SubS T H s) (h : WpV P r n c K s.1 s.2) : WpV P r n c K T H :=
  fun w0 mu a w hr ht hsat hd => h w0 mu a w hr (ht.sub hs.1) (hsat.sub hs.2.1) (by rw [hd, defersOf, defersOf, hs.2.2])

end Go.Ev
