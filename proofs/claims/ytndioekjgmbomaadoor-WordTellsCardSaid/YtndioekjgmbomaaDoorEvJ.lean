/- EvJ: a region whose order is open. A schedule is walked: an operation that only reads (or a call with a plain answer) is taken where it may come up and is apart from what may come up too; any other one where nothing else may come up. -/
import Derived.Test.YtndioekjgmbomaaDoorEvI
import Derived.OrdersIn
set_option linter.unusedSimpArgs false
set_option linter.unusedVariables false
namespace Go.Ev
open Go.RowKit

/-- w' is w but for new blocks -/
structure Grew (w w' : World) : Prop where
  os : w'.os = w.os
  tape : w'.tape = w.tape
  output : w'.output = w.output
  size : w.heap.size ≤ w'.heap.size
  same : ∀ k, k < w.heap.size → w'.heap[k]? = w.heap[k]?

theorem Sat.grew {w0 w w' : World} {mu : Nat → Prop} {H : Hp} (h : Sat w0 mu H w) (g : Grew w w') : Sat w0 mu H w' :=
  ⟨g.os.trans h.os, g.tape.trans h.tape, g.output.trans h.output, Nat.le_trans h.size g.size, fun b hb hm => (g.same b (Nat.lt_of_lt_of_le hb h.size)).trans (h.old b hb hm),
   fun e he => Ent.holds_of (h.ents e he) (g.same _ (Ent.lt (h.ents e he))), h.own, h.apart⟩

def Closed (C : World → Prop) : Prop := ∀ w w', C w → Grew w w' → C w'

section
variable {P : Program} {r : Option Nat} {ops : Array Oper} {Qn : Act → World → Prop} {keep : Nat → Bool}

abbrev Q0 (Qn : Act → World → Prop) : Exit → Act → World → Prop := fun e a w => e = .normal ∧ Qn a w

/-- whatever order is picked from here on, from every world of the class -/
def AnyC (P : Program) (r : Option Nat) (ops : Array Oper) (Qn : Act → World → Prop) (keep : Nat → Bool) : Nat → Array Bool → Act → (World → Prop) → Prop
  | 0, listed, a, C => ∀ w, C w → Region.ready .any ops listed = [] ∧ Qn a w
  | f + 1, listed, a, C => ∀ w, C w → (Region.ready .any ops listed = [] → Qn a w) ∧ ∀ i ∈ Region.ready .any ops listed,
      wpOpIn (Fr r) 0 P ops (Q0 Qn) i (fun a' w' => ∃ C', C' w' ∧ Closed C' ∧ (keep i = true → ∀ u, C' u → C u) ∧ AnyC P r ops Qn keep f (listed.setIfInBounds i true) a' C') a w

theorem AnyC.any : ∀ (f : Nat) (listed : Array Bool) (a : Act) (C : World → Prop), AnyC P r ops Qn keep f listed a C → ∀ w, C w → wpAnyIn (Fr r) 0 P .any ops (Q0 Qn) f listed a w
  | 0, _, _, _, h, w, hw => ⟨(h w hw).1, rfl, (h w hw).2⟩
  | f + 1, listed, a, C, h, w, hw => ⟨fun h0 => ⟨rfl, (h w hw).1 h0⟩, fun i hi => wpOpIn_mono (fun a' w' ⟨C', h1, _, _, h2⟩ => AnyC.any f _ a' C' h2 w' h1) ((h w hw).2 i hi)⟩

/-- in state 'a', in every world of the class, operation 'o' leaves 'v', and at most new memory -/
def YieldsC (P : Program) (ops : Array Oper) (C : World → Prop) (o : Oper) (v : Value) (a : Act) : Prop :=
  (Region.wanted o (yielded ops a.tmps) = true ∧ (∀ c, o.op ≠ .defer c) ∧ ∀ w, C w → (execOp a.eval o).run P w = .ok (.value v) w ∨
    ∃ f args, (execOp a.eval o).run P w = .ok (.enter f args) w ∧ CallsIn (Fr none) 0 P f args w fun e w' => e = .returned v ∧ Grew w w') ∨
  (Region.wanted o (yielded ops a.tmps) = false ∧ v = undef)

theorem Grew.refl (w : World) : Grew w w := ⟨rfl, rfl, rfl, Nat.le_refl _, fun _ _ => rfl⟩

theorem YieldsC.wpOp {i : Nat} {o : Oper} {v : Value} {a : Act} {C : World → Prop} (hi : ops[i]? = some o) (hy : YieldsC P ops C o v a) {K : Act → World → Prop} {w : World} (hw : C w) (h : ∀ w', Grew w w' → K (a.put o.dst v) w') :
    wpOpIn (Fr r) 0 P ops (Q0 Qn) i K a w := by
  unfold wpOpIn
  rw [hi]
  dsimp only
  rcases hy with ⟨hwt, hd, hv⟩ | ⟨hwt, rfl⟩
  · rw [if_pos hwt]
    refine ⟨fun _ _ => trivial, ?_⟩
    rw [Oper.semAt_eq _ _ _ hd]
    rcases hv w hw with hv | ⟨f, args, hv, hcall⟩
    · rw [hv]; exact h w (Grew.refl w)
    · rw [hv]
      refine ⟨fun hh => by simp [Fr] at hh, CallsIn.mono (F := Fr r) (n := 0) hcall ?_⟩
      rintro e w' ⟨rfl, hg⟩
      exact h w' hg
  · rw [if_neg (by simp [hwt])]
    exact ⟨fun _ _ => trivial, h w (Grew.refl w)⟩

theorem YieldsC.of_same {o : Oper} {v : Value} {a a' : Act} {C : World → Prop} (hy : YieldsC P ops C o v a) (he : execOp a'.eval o = execOp a.eval o) (hw : Region.wanted o (yielded ops a'.tmps) = Region.wanted o (yielded ops a.tmps)) : YieldsC P ops C o v a' := by
  unfold YieldsC at *
  rw [he, hw]
  exact hy
theorem YieldsC.less {o : Oper} {v : Value} {a : Act} {C C' : World → Prop} (hy : YieldsC P ops C o v a) (h : ∀ u, C' u → C u) : YieldsC P ops C' o v a := by
  rcases hy with ⟨h1, h2, h3⟩ | h
  · exact .inl ⟨h1, h2, fun w hw => h3 w (h w hw)⟩
  · exact .inr h

theorem wpOpIn_swap {j : Nat} {oi oj : Oper} {v : Value} {C : World → Prop} (hj : ops[j]? = some oj) (hap : oi.apart ops oj = true) (hsi : ∀ cs b, oi.op ≠ .select cs b) (hsj : ∀ cs b, oj.op ≠ .select cs b)
    {K : Act → World → Prop} {a : Act} {w : World} (hy : YieldsC P ops C oi v a) (h : wpOpIn (Fr r) 0 P ops (Q0 Qn) j K (a.put oi.dst v) w) :
    wpOpIn (Fr r) 0 P ops (Q0 Qn) j (fun a' w' => YieldsC P ops C oi v a' ∧ K (a'.put oi.dst v) w') a w := by
  obtain ⟨h1, h2, h3⟩ := Oper.apart_spec hap
  have keepp : ∀ (a : Act), YieldsC P ops C oi v a → ∀ u, YieldsC P ops C oi v (a.put oj.dst u) := fun a hy u =>
    hy.of_same (execOp_put oi hsi a oj.dst u h3) (wanted_put oi a oj.dst u h3)
  have keepD : ∀ d, YieldsC P ops C oi v { a with defers := d :: a.defers } := fun d => hy.of_same rfl rfl
  unfold wpOpIn at *
  rw [hj] at h ⊢
  dsimp only at h ⊢
  rw [wanted_put oj a oi.dst v h1] at h
  split
  · rename_i hw
    rw [if_pos hw] at h
    obtain ⟨_, h⟩ := h
    refine ⟨fun _ _ => trivial, ?_⟩
    have hsem : oj.semAt (Fr r).round (a.put oi.dst v).eval = oj.semAt (Fr r).round a.eval := by
      by_cases hd : ∃ c, oj.op = .defer c
      · obtain ⟨c, hc⟩ := hd
        unfold Oper.semAt
        rw [hc, execOp_put oj hsj a oi.dst v h1]
        cases (Fr r).round with
        | none => rfl
        | some l =>
          dsimp only
          have hres : resolve (a.put oi.dst v).eval c oj.type = resolve a.eval c oj.type := resolve_congr c oj.type fun x hx => Act.eval_put fun d hd hxd => h1 d hd (by
            subst hxd
            unfold Oper.looksAt
            rw [hc]
            refine List.mem_append_left _ (List.mem_filterMap.2 ⟨.tmp d, by simpa [Op.operands] using hx, rfl⟩))
          rw [hres]
      · have hd' : ∀ c, oj.op ≠ .defer c := fun c hc => hd ⟨c, hc⟩
        rw [Oper.semAt_eq _ _ _ hd', Oper.semAt_eq _ _ _ hd', execOp_put oj hsj a oi.dst v h1]
    rw [hsem] at h
    generalize (oj.semAt (Fr r).round a.eval).run P w = res at *
    cases res with
    | ok nx w' =>
      cases nx <;> simp only [Oper.uponIn] at h ⊢
      case value u => exact ⟨keepp a hy u, by rw [← Act.put_comm a v u h2]; exact h⟩
      case skip => exact ⟨keepp a hy _, by rw [← Act.put_comm a v undef h2]; exact h⟩
      case defer d =>
        refine ⟨keepp _ (keepD d) _, ?_⟩
        rw [← Act.put_comm _ v undef h2]
        have : ({ a with defers := d :: a.defers } : Act).put oi.dst v = { a.put oi.dst v with defers := d :: (a.put oi.dst v).defers } := by cases oi.dst <;> rfl
        rw [this]
        exact h
      case enter f args =>
        refine ⟨h.1, CallsIn.mono h.2 fun e w'' he => ?_⟩
        cases e with
        | returned u => exact ⟨keepp a hy u, by rw [← Act.put_comm a v u h2]; exact he⟩
        | panicked c => exact absurd he.1 (by simp)
        | outgrown => exact he
      case row row args => exact ⟨h.1, RowsIn.mono h.2 fun u w'' he => ⟨keepp a hy u, by rw [← Act.put_comm a v u h2]; exact he⟩⟩
      case round l f tmps assign body =>
        refine ⟨h.1, RoundIn.mono h.2 fun e w'' he => ?_⟩
        cases e with
        | returned u => exact ⟨keepp a hy u, by rw [← Act.put_comm a v u h2]; exact he⟩
        | panicked c => exact absurd he.1 (by simp)
        | outgrown => exact he
    | halt x w' =>
      cases x <;> simp only [Oper.uponIn] at h ⊢
      case panic u => exact absurd h.1 (by simp)
  · rename_i hw
    rw [if_neg hw] at h
    exact ⟨fun _ _ => trivial, keepp a hy _, by rw [← Act.put_comm a v undef h2]; exact h.2⟩

/-- **An operation that only reads may be taken first.** -/
theorem AnyC.first {i : Nat} {oi : Oper} {v : Value} (D : Nat → Prop) (hD : ∀ j, D j → ∀ oj, ops[j]? = some oj → ∃ e ∈ oj.after, Region.binds .any e = true ∧ (e.on = i ∨ D e.on)) (hi : ops[i]? = some oi) (hsel : ∀ (j : Nat) (o : Oper) cs b, ops[j]? = some o → o.op ≠ .select cs b) : ∀ (f : Nat) (listed : Array Bool) (a : Act) (C Cy : World → Prop),
    (∀ j, D j → listed.getD j true = false) → (∀ j oj, ops[j]? = some oj → j ≠ i → ¬ D j → listed.getD j true = false → (∀ e ∈ oj.after, Region.binds .any e = true → e.on ≠ i) → oi.apart ops oj = true ∧ (keep j = true ∨ ∀ u, Cy u)) →
    i ∈ Region.ready .any ops listed → Closed C → (∀ u, C u → Cy u) → YieldsC P ops Cy oi v a → AnyC P r ops Qn keep f (listed.setIfInBounds i true) (a.put oi.dst v) C → AnyC P r ops Qn keep (f + 1) listed a C := by
  intro f
  induction f with
  | zero =>
    intro listed a C Cy _ _ hr hc hle hy H w hw
    refine ⟨fun h => (by rw [h] at hr; cases hr), fun j hj => ?_⟩
    by_cases hji : j = i
    · subst hji; exact hy.wpOp hi (hle w hw) fun w' hw' => ⟨C, hc w w' hw hw', hc, fun _ _ h => h, H⟩
    · have := ready_mono hj hji
      rw [(H w hw).1] at this
      cases this
  | succ f ih =>
    intro listed a C Cy hDun hfree hr hc hle hy H w hw
    refine ⟨fun h => (by rw [h] at hr; cases hr), fun j hj => ?_⟩
    by_cases hji : j = i
    · subst hji; exact hy.wpOp hi (hle w hw) fun w' hw' => ⟨C, hc w w' hw hw', hc, fun _ _ h => h, H⟩
    · have h1 := (H w hw).2 j (ready_mono hj hji)
      obtain ⟨hjun, oj, hoj, hall⟩ := mem_ready.1 hj
      have hnot : ∀ e ∈ oj.after, Region.binds .any e = true → e.on ≠ i := fun e he hb heq => by
        have h1 := hall e he hb
        have h0 := (mem_ready.1 hr).1
        rw [heq] at h1
        rcases Nat.lt_or_ge i listed.size with h' | h'
        · simp [h'] at h0 h1; rw [h0] at h1; cases h1
        · simp [Array.getElem?_eq_none h'] at h1
      have hnD : ¬ D j := fun hd => by
        obtain ⟨e, he, hb, hor⟩ := hD j hd oj hoj
        rcases hor with heq | hde
        · exact hnot e he hb heq
        · have h1 := hall e he hb
          have h0 := hDun _ hde
          rw [Array.getD_eq_getD_getElem?] at h0 h1
          cases hl : listed[e.on]? with
          | none => rw [hl] at h0; cases h0
          | some b => rw [hl] at h0 h1; cases b <;> simp at h0 h1
      have hDun' : ∀ k, D k → (listed.setIfInBounds j true).getD k true = false := fun k hk => by
        have hjk : j ≠ k := fun h => hnD (h ▸ hk)
        rw [getD_set_ne true hjk]
        exact hDun k hk
      obtain ⟨hap, hkp⟩ := hfree j oj hoj hji hnD hjun hnot
      have h2 := wpOpIn_swap hoj hap (fun cs b => hsel i oi cs b hi) (fun cs b => hsel j oj cs b hoj) hy h1
      have hfree' : ∀ k ok, ops[k]? = some ok → k ≠ i → ¬ D k → (listed.setIfInBounds j true).getD k true = false →
          (∀ e ∈ ok.after, Region.binds .any e = true → e.on ≠ i) → oi.apart ops ok = true ∧ (keep k = true ∨ ∀ u, Cy u) := fun k ok hk hki hkD hun hno => by
        refine hfree k ok hk hki hkD ?_ hno
        by_cases hjk : j = k
        · subst hjk; exact hjun
        · rw [getD_set_ne true hjk] at hun; exact hun
      refine wpOpIn_mono (fun a' w' h3 => ?_) h2
      obtain ⟨hy', C', hw', hc', hle', hA⟩ := h3
      refine ⟨C', hw', hc', hle', ih (listed.setIfInBounds j true) a' C' Cy hDun' hfree' (ready_mono hr (Ne.symm hji)) hc' (fun u hu => ?_) hy' ?_⟩
      · rcases hkp with hkp | hall
        · exact hle u (hle' hkp u hu)
        · exact hall u
      rw [Array.setIfInBounds_comm _ _ hji]
      exact hA
end

/-! ### the walk of a schedule -/
/-- a call with a plain answer, over memory that it only reads -/
def QuietV (P : Program) (g : FuncId) (args : List Value) (H : Hp) (v : Value) : Prop := ∃ Hf, derE H Hf ∧ CallsV P g args Hf (Ret0 v)

def TakeV (P : Program) (g : FuncId) (args : List Value) (H : Hp) (K : Value → Prop) : Prop := ∃ v, QuietV P g args H v ∧ K v
theorem TakeV.mk {P : Program} {g : FuncId} {args : List Value} {H Hf : Hp} {K : Value → Prop} {v : Value} (hd : derE H Hf) (hc : CallsV P g args Hf (Ret0 v)) (hk : K v) : TakeV P g args H K := ⟨v, ⟨Hf, hd, hc⟩, hk⟩
def evTake (P : Program) (G : Gam) (T : Tm) (H : Hp) (op : Op) (K : Value → Prop) : Prop :=
  match op with
  | .call { callee := .value f, args, .. } => match opd T f, optL (args.toList.map (opd T)) with
    | some (.func (.func g) first captured), some vs => match G g (first.toList ++ vs ++ captured.toList) with
      | some v => K v
      | none => TakeV P g (first.toList ++ vs ++ captured.toList) H K
    | _, _ => False
  | op => match evQ P T H op with
    | some v => K v
    | none => False

/-- an operation; where it keeps what is known this is asked -/
def evOpK (P : Program) (G : Gam) (T : Tm) (H : Hp) (op : Op) (m : Nat) (K : Value → Hp → Prop) : Prop :=
  match m with
  | 3 => evOp P G T H op K
  | _ => evOp P G T H op fun v H' => subH H' H ∧ K v H'
/-- two operations, one behind the other -/
def evTwo (P : Program) (G : Gam) (n : Nat) (ops : List Oper) (K : Tm → Hp → Prop) (i m j k : Nat) (T : Tm) (H : Hp) : Prop :=
  match ops[i]?, ops[j]? with
  | some oi, some oj => evOpK P G T H oi.op m fun v H' => evOpK P G (putT n T oi.dst v) H' oj.op k fun u H'' => K (putT n (putT n T oi.dst v) oj.dst u) H''
  | _, _ => False
/-- steps of a schedule: (which operation, how: 0: it is taken; 1: nothing else may come up; 2: the same, and it keeps what is known; 3, 4: this one and the next one, in either order (4: it keeps what is known)) -/
def evOne (P : Program) (G : Gam) (n : Nat) (ops : List Oper) (K : Tm → Hp → Prop) (i m : Nat) (T : Tm) (H : Hp) : Prop :=
  match ops[i]? with
  | some o => gd ops T o.guard
      (match m with
       | 0 => evTake P G T H o.op fun v => K (putT n T o.dst v) H
       | 1 => evOp P G T H o.op fun v H' => K (putT n T o.dst v) H'
       | _ => evOp P G T H o.op fun v H' => subH H' H ∧ K (putT n T o.dst v) H')
      (K (putT n T o.dst undef) H)
  | none => False
def evD (P : Program) (G : Gam) (n : Nat) (ops : List Oper) (K : Tm → Hp → Prop) : List (Nat × Nat) → Tm → Hp → Prop
  | [], T, H => K T H
  | (i, 0) :: s, T, H => evOne P G n ops (evD P G n ops K s) i 0 T H
  | (i, 1) :: s, T, H => evOne P G n ops (evD P G n ops K s) i 1 T H
  | (i, 2) :: s, T, H => evOne P G n ops (evD P G n ops K s) i 2 T H
  | (i, m + 3) :: (j, k) :: s, T, H => evTwo P G n ops (evD P G n ops K s) i (m + 3) j k T H ∧ evTwo P G n ops (evD P G n ops K s) j k i (m + 3) T H
  | (_, _ + 3) :: [], _, _ => False

/-- is the schedule one that serves? -/
def keepOf (s : List (Nat × Nat)) (i : Nat) : Bool := s.any fun x => x.1 == i && x.2 != 1 && x.2 != 3
/-- does it read memory? -/
def readsM : Op → Bool
  | .load .. => true
  | .call _ => true
  | _ => false
/-- does operation j wait for operation i, be it through others? -/
def depB (ops : Array Oper) (listed : Array Bool) (i : Nat) : Nat → Nat → Bool
  | 0, _ => false
  | f + 1, j => match ops[j]? with
    | some oj => oj.after.any fun e => Region.binds .any e && (e.on == i || (!listed.getD e.on true && depB ops listed i f e.on))
    | none => false
def chkOne (ops : Array Oper) (keep : Nat → Bool) (i m : Nat) (listed : Array Bool) : Bool :=
  match m with
    | 0 => (Region.ready .any ops listed).contains i && Region.free .any ops listed i && ((List.range ops.size).all fun j => !((ops[i]?).any fun o => readsM o.op) || j == i || listed.getD j true || keep j || (match ops[j]? with | some oj => oj.after.any (fun e => Region.binds .any e && e.on == i) | none => true) || depB ops listed i 3 j)
    | _ => Region.ready .any ops listed == [i]
def chkD (ops : Array Oper) (keep : Nat → Bool) : List (Nat × Nat) → Array Bool → Bool
  | [], listed => (Region.ready .any ops listed).isEmpty
  | (i, 0) :: s, listed => chkOne ops keep i 0 listed && chkD ops keep s (listed.setIfInBounds i true)
  | (i, 1) :: s, listed => chkOne ops keep i 1 listed && chkD ops keep s (listed.setIfInBounds i true)
  | (i, 2) :: s, listed => chkOne ops keep i 2 listed && chkD ops keep s (listed.setIfInBounds i true)
  | (i, _ + 3) :: (j, k) :: s, listed => (Region.ready .any ops listed).contains i && (Region.ready .any ops listed).all (fun x => x == i || x == j) && Region.ready .any ops (listed.setIfInBounds i true) == [j] && Region.ready .any ops (listed.setIfInBounds j true) == [i] && decide (3 ≤ k) && i != j &&
      ((ops[i]?).any fun o => o.guard.isNone) && ((ops[j]?).any fun o => o.guard.isNone) && chkD ops keep s ((listed.setIfInBounds i true).setIfInBounds j true)
  | (_, _ + 3) :: [], _ => false
def planOk (ops : Array Oper) (s : List (Nat × Nat)) : Bool := Region.noSelect ops && s.length == ops.size && chkD ops (keepOf s) s (Array.replicate ops.size false) && s.all fun x => !keepOf s x.1 || (x.2 != 1 && x.2 != 3)

theorem quiet_grew {P : Program} {g : FuncId} {args : List Value} {H : Hp} {v : Value} (hq : QuietV P g args H v) {w0 w : World} {mu : Nat → Prop} (hs : Sat w0 mu H w) :
    CallsIn (Fr none) 0 P g args.toArray w fun e w' => e = .returned v ∧ Grew w w' := by
  obtain ⟨Hf, hd, hc⟩ := hq
  have h2 : CallsV P g args H (fun u H' => u = v ∧ H' = H) := hc.pure hd ⟨rfl, rfl⟩
  -- the same, at a world of its own
  have hsub : Sat w (fun _ => False) (H.map fun e => { e with kind := .ro }) w → True := fun _ => trivial
  clear hsub
  have hder := derE_mem hd
  have hro : ∀ e ∈ Hf, ¬ e.wr := fun e he hw => by unfold Ent.wr at hw; rw [(hder e he).1] at hw; exact hw
  have hsf : Sat w (fun _ => False) Hf w := by
    refine ⟨rfl, rfl, rfl, Nat.le_refl _, fun _ _ _ => rfl, fun e he => ?_, fun e he hw => absurd hw (hro e he), ?_⟩
    · obtain ⟨h1, h2⟩ := hder e he
      unfold Ent.holds
      rw [h1]
      dsimp only
      refine ⟨?_, (hs.cellsAt h2).2⟩
      unfold cellsAt at h2
      split at h2
      · rename_i e' he'
        obtain ⟨hm, hb⟩ := findE_mem he'
        rw [← hb]; exact Ent.lt (hs.ents e' hm)
      · cases h2
    · exact List.pairwise_iff_forall_sublist.2 fun {a b} hab => by
        intro hw
        rcases hw with hw | hw
        · exact absurd hw (hro a (hab.subset (by simp)))
        · exact absurd hw (hro b (hab.subset (by simp)))
  refine (hc.2 w (fun _ => False) w hsf).mono ?_
  rintro e w' ⟨u, N, rfl, ⟨rfl, rfl⟩, hsN, _⟩
  exact ⟨rfl, hsN.os, hsN.tape, hsN.output, hsN.size, fun k hk => hsN.old k hk id⟩

section
variable {P : Program} {r : Option Nat} {n : Nat} {w0 : World} {mu : Nat → Prop} {ops : Array Oper}

theorem evQ_reads {T : Tm} {H : Hp} {op : Op} {v : Value} (hr : readsM op = false) (h : evQ P T H op = some v) : evQ P T [] op = some v := by
  cases op <;> first | exact h | simp [readsM] at hr

theorem Sat.nil (w : World) : Sat w (fun _ => False) [] w := ⟨rfl, rfl, rfl, Nat.le_refl _, fun _ _ _ => rfl, (fun e he => by cases he), (fun e he => by cases he), List.Pairwise.nil⟩

theorem evTake_ok {G : Gam} (hG : GamOk P G) {T : Tm} {H : Hp} {a : Act} (ht : TRel n T a) {o : Oper} (hwt : Region.wanted o (yielded ops a.tmps) = true) {K : Value → Prop} (h : evTake P G T H o.op K) :
    ∃ v, YieldsC P ops (fun w => readsM o.op = true → Sat w0 mu H w) o v a ∧ K v := by
  obtain ⟨dst, op, type, pos, after, guard⟩ := o
  dsimp only at h
  unfold evTake at h
  split at h
  · rename_i f args argTypes
    split at h
    case h_2 => exact h.elim
    rename_i g first captured vs hf hvs
    have hargs : args.map a.eval = vs.toArray := by rw [← optL_eval ht hvs, ← Array.toList_inj]; simp
    have h' : (∃ v, QuietV P g (first.toList ++ vs ++ captured.toList) H v ∧ K v) ∨ ∃ v, ExtV P g (first.toList ++ vs ++ captured.toList) v ∧ K v := by
      split at h
      · rename_i v hv
        rcases hG _ _ _ hv with hc | hx
        · exact .inl ⟨v, ⟨[], trivial, hc⟩, h⟩
        · exact .inr ⟨v, hx, h⟩
      · exact .inl h
    rcases h' with ⟨v, hq, hk⟩ | ⟨v, hx, hk⟩
    case inr =>
      refine ⟨v, .inl ⟨hwt, by simp, fun w hw => .inl ?_⟩, hk⟩
      have := hx w
      rw [show (first.toList ++ vs ++ captured.toList).toArray = first ++ vs.toArray ++ captured by rw [← Array.toList_inj]; simp] at this
      rw [Array.append_assoc] at this
      simp [execOp, resolve, opd_eval ht hf, Deferred.ofValue, hargs, invoke, this]
    refine ⟨v, .inl ⟨hwt, by simp, fun w hw => .inr ⟨g, first ++ vs.toArray ++ captured, ?_, ?_⟩⟩, hk⟩
    · have hent := hq.choose_spec.2.1
      simp [execOp, resolve, opd_eval ht hf, Deferred.ofValue, hargs, invoke, hent]
    · have := quiet_grew hq (hw rfl)
      rwa [show (first.toList ++ vs ++ captured.toList).toArray = first ++ vs.toArray ++ captured by rw [← Array.toList_inj]; simp] at this
  · split at h
    case h_2 => exact h.elim
    rename_i _ v hv
    refine ⟨v, .inl ⟨hwt, by intro c hc; dsimp only at hc; subst hc; simp [evQ] at hv, fun w hw => .inl ?_⟩, h⟩
    by_cases hr : readsM op = true
    · exact run_evQ ht (hw hr) hv
    · exact run_evQ ht (Sat.nil w) (evQ_reads (by simpa using hr) hv)

theorem evOpK_ok {G : Gam} (hG : GamOk P G) {Qn : Act → World → Prop} {T : Tm} {H : Hp} {a : Act} {w : World} {i m : Nat} {o : Oper} {K : Value → Hp → Prop} (ho : ops[i]? = some o) (hgn : o.guard = none) (ht : TRel n T a) (hs : Sat w0 mu H w) (h : evOpK P G T H o.op m K) :
    wpOpIn (Fr r) 0 P ops (Q0 Qn) i (fun a' w' => ∃ v H', a' = a.put o.dst v ∧ Sat w0 mu H' w' ∧ marksOf H' = marksOf H ∧ (m ≠ 3 → ∀ u, Sat w0 mu H' u → Sat w0 mu H u) ∧ K v H') a w := by
  have hw : Region.wanted o (yielded ops a.tmps) = true := by
    rcases gd_ok (ops := ops) (o := o) (A := True) (B := False) ht (by rw [hgn]; trivial) with ⟨h, _⟩ | ⟨_, h⟩
    · exact h
    · exact h.elim
  unfold wpOpIn
  rw [ho]
  dsimp only
  rw [if_pos hw]
  unfold evOpK at h
  split at h
  · exact evOp_ok hG ht hs h fun v H' w' hk hs' hm' => ⟨v, H', rfl, hs', hm', fun h => absurd rfl h, hk⟩
  · exact evOp_ok hG ht hs h fun v H' w' hk hs' hm' => ⟨v, H', rfl, hs', hm', fun _ u hu => hu.sub hk.1, hk.2⟩
/-- two operations, one behind the other; nothing else may come up between them -/
theorem evTwo_ok {G : Gam} (hG : GamOk P G) {Qn : Act → World → Prop} {K : Tm → Hp → Prop} {keep : Nat → Bool} {T : Tm} {H : Hp} {a : Act} {w : World} {i m j k f : Nat} {oi oj : Oper} {listed : Array Bool} (hi : ops[i]? = some oi) (hj : ops[j]? = some oj) (hgi : oi.guard = none) (hgj : oj.guard = none)
    (hki : keep i = true → m ≠ 3) (hkj : keep j = true → k ≠ 3) (hr : Region.ready .any ops (listed.setIfInBounds i true) = [j])
    (ht : TRel n T a) (hs : Sat w0 mu H w) (h : evTwo P G n ops.toList K i m j k T H)
    (hrest : ∀ T' H' a', TRel n T' a' → marksOf H' = marksOf H → a'.defers = a.defers → K T' H' → AnyC P r ops Qn keep f ((listed.setIfInBounds i true).setIfInBounds j true) a' (fun w => Sat w0 mu H' w)) :
    wpOpIn (Fr r) 0 P ops (Q0 Qn) i (fun a' w' => ∃ C', C' w' ∧ Closed C' ∧ (keep i = true → ∀ u, C' u → Sat w0 mu H u) ∧ AnyC P r ops Qn keep (f + 1) (listed.setIfInBounds i true) a' C') a w := by
  have hclosed : ∀ H : Hp, Closed fun w => Sat w0 mu H w := fun H w w' hw hg => hw.grew hg
  have hput : ∀ (o : Oper) (a : Act) (v : Value), (a.put o.dst v).defers = a.defers := by
    intro o a v; cases o.dst <;> rfl
  unfold evTwo at h
  rw [show ops.toList[i]? = some oi by simpa using hi, show ops.toList[j]? = some oj by simpa using hj] at h
  dsimp only at h
  refine wpOpIn_mono ?_ (evOpK_ok (Qn := Qn) hG hi hgi ht hs h)
  rintro a' w' ⟨v, H', rfl, hs', hm', hk', h'⟩
  refine ⟨fun w => Sat w0 mu H' w, hs', hclosed H', fun hkk => hk' (hki hkk), ?_⟩
  intro w2 hs2
  rw [hr]
  refine ⟨fun h => (by cases h), fun x hx => ?_⟩
  obtain rfl : x = j := by simpa using hx
  refine wpOpIn_mono ?_ (evOpK_ok (Qn := Qn) hG hj hgj (ht.put oi.dst v) hs2 h')
  rintro a'' w'' ⟨u, H'', rfl, hs'', hm'', hk'', h''⟩
  exact ⟨fun w => Sat w0 mu H'' w, hs'', hclosed H'', fun hkk => hk'' (hkj hkk), hrest _ _ _ ((ht.put oi.dst v).put oj.dst u) (hm''.trans hm') ((hput oj _ _).trans (hput oi _ _)) h''⟩

theorem evOne_ok {G : Gam} (hG : GamOk P G) {Qn : Act → World → Prop} {K : Tm → Hp → Prop} {keep : Nat → Bool} (hsel : Region.noSelect ops = true) {i m f : Nat} {listed : Array Bool} (hstep : chkOne ops keep i m listed = true) (hkeep : keep i = true → m ≠ 1)
    {T : Tm} {H : Hp} {a : Act} (ht : TRel n T a) (h : evOne P G n ops.toList K i m T H)
    (hrec : ∀ T' H' a', TRel n T' a' → marksOf H' = marksOf H → a'.defers = a.defers → K T' H' → AnyC P r ops Qn keep f (listed.setIfInBounds i true) a' (fun w => Sat w0 mu H' w)) :
    AnyC P r ops Qn keep (f + 1) listed a (fun w => Sat w0 mu H w) := by
  unfold evOne at h
  unfold chkOne at hstep
  split at h
  case h_2 => exact h.elim
  rename_i o ho
  have ho' : ops[i]? = some o := by simpa using ho
  have hput : ∀ (v : Value), (a.put o.dst v).defers = a.defers := by
    intro v; cases o.dst <;> rfl
  have hclosed : ∀ H : Hp, Closed fun w => Sat w0 mu H w := fun H w w' hw hg => hw.grew hg
  have hfst : ∀ {v : Value}, (m = 0) → YieldsC P ops (fun w => readsM o.op = true → Sat w0 mu H w) o v a → AnyC P r ops Qn keep f (listed.setIfInBounds i true) (a.put o.dst v) (fun w => Sat w0 mu H w) → AnyC P r ops Qn keep (f + 1) listed a (fun w => Sat w0 mu H w) := by
    intro v hm0 hy hA
    subst hm0
    simp only [Bool.and_eq_true] at hstep
    obtain ⟨⟨hready, hfree⟩, hkp⟩ := hstep
    refine AnyC.first (fun j => listed.getD j true = false ∧ ∃ g, depB ops listed i g j = true) ?_ ho' (fun j o' cs b hj => Region.noSelect_spec hsel j o' cs b hj) f listed a _ _ (fun j hj => hj.1) ?_ (by simpa using hready) (hclosed H) (fun u hu _ => hu) hy hA
    · rintro j ⟨_, g, hg⟩ oj hoj
      cases g with
      | zero => cases hg
      | succ g =>
        simp only [depB, hoj] at hg
        obtain ⟨e, he, heb⟩ := Array.any_eq_true'.1 hg
        simp only [Bool.and_eq_true, Bool.or_eq_true, beq_iff_eq, Bool.not_eq_true'] at heb
        exact ⟨e, he, heb.1, heb.2.imp id fun h => ⟨h.1, g, h.2⟩⟩
    intro j oj hj hne hnD hun hno
    refine ⟨Region.free_spec ho' hfree j oj hj hne hun hno, ?_⟩
    have hjlt : j < ops.size := (Array.getElem?_eq_some_iff.1 hj).1
    have := (List.all_eq_true.1 hkp) j (by simpa using hjlt)
    simp only [hj, hun, Bool.or_false, Bool.or_eq_true, beq_iff_eq, hne, or_false, ho', Option.any_some, Bool.not_eq_true'] at this
    rcases this with ((h1 | h1) | h1) | h1
    · exact .inr fun u hu => by rw [h1] at hu; cases hu
    · exact .inl h1
    · obtain ⟨e, he, heb⟩ := Array.any_eq_true'.1 h1
      simp only [Bool.and_eq_true, beq_iff_eq] at heb
      exact absurd heb.2 (hno e he heb.1)
    · exact absurd ⟨hun, 3, h1⟩ hnD
  have hone : (m ≠ 0) → Region.ready .any ops listed = [i] := by
    intro hm0
    cases m with
    | zero => exact absurd rfl hm0
    | succ m => simpa using hstep
  rcases gd_ok (ops := ops) ht h with ⟨hw, hA⟩ | ⟨hw, hB⟩
  · cases m with
    | zero =>
      obtain ⟨v, hy, hk⟩ := evTake_ok (w0 := w0) (mu := mu) (ops := ops) hG ht hw hA
      exact hfst rfl hy (hrec _ H _ (ht.put o.dst v) rfl (hput v) hk)
    | succ m =>
      have hr1 := hone (by simp)
      intro w hsw
      rw [hr1]
      refine ⟨fun h => (by cases h), fun j hj => ?_⟩
      obtain rfl : j = i := by simpa using hj
      unfold wpOpIn
      rw [ho']
      dsimp only
      rw [if_pos hw]
      cases m with
      | zero =>
        refine evOp_ok hG ht hsw hA ?_
        intro v H' w' hk hs' hm'
        exact ⟨fun w => Sat w0 mu H' w, hs', hclosed H', fun hkk => absurd rfl (hkeep hkk), hrec _ H' _ (ht.put o.dst v) hm' (hput v) hk⟩
      | succ m =>
        refine evOp_ok hG ht hsw hA ?_
        intro v H' w' hk hs' hm'
        exact ⟨fun w => Sat w0 mu H' w, hs', hclosed H', fun _ u hu => hu.sub hk.1, hrec _ H' _ (ht.put o.dst v) hm' (hput v) hk.2⟩
  · have hy : YieldsC P ops (fun w => readsM o.op = true → Sat w0 mu H w) o undef a := .inr ⟨hw, rfl⟩
    have hA := hrec _ H _ (ht.put o.dst undef) rfl (hput _) hB
    cases m with
    | zero => exact hfst rfl hy hA
    | succ m =>
      have hr1 := hone (by simp)
      intro w hsw
      rw [hr1]
      refine ⟨fun h => (by cases h), fun j hj => ?_⟩
      obtain rfl : j = i := by simpa using hj
      exact hy.wpOp ho' (fun _ => hsw) fun w' hw' => ⟨_, hclosed H w w' hsw hw', hclosed H, fun _ _ h => h, hA⟩

theorem evD_ok {G : Gam} (hG : GamOk P G) {Qn : Act → World → Prop} {K : Tm → Hp → Prop} {M : List Nat} {D : List Deferred} {keep : Nat → Bool} (hsel : Region.noSelect ops = true)
    (hQ : ∀ T H a w, K T H → TRel n T a → Sat w0 mu H w → marksOf H = M → a.defers = D → Qn a w) :
    ∀ (s : List (Nat × Nat)) (listed : Array Bool), chkD ops keep s listed = true → (∀ x ∈ s, keep x.1 = true → x.2 ≠ 1 ∧ x.2 ≠ 3) → ∀ (T : Tm) (H : Hp) (a : Act), TRel n T a → marksOf H = M → a.defers = D →
      evD P G n ops.toList K s T H → AnyC P r ops Qn keep s.length listed a (fun w => Sat w0 mu H w)
  | [], listed, hc, _, T, H, a, ht, hm, hd, h => fun w hw => ⟨by simpa [chkD] using hc, hQ T H a w h ht hw hm hd⟩
  | (i, 0) :: s, listed, hc, hkeep, T, H, a, ht, hm, hd, h => by
    simp only [chkD, Bool.and_eq_true] at hc
    exact evOne_ok hG hsel hc.1 (fun hk => (hkeep (i, 0) (by simp) hk).1) ht h fun T' H' a' ht' hm' hd' hk' => evD_ok hG hsel hQ s _ hc.2 (fun x hx => hkeep x (by simp [hx])) T' H' a' ht' (hm'.trans hm) (hd'.trans hd) hk'
  | (i, 1) :: s, listed, hc, hkeep, T, H, a, ht, hm, hd, h => by
    simp only [chkD, Bool.and_eq_true] at hc
    exact evOne_ok hG hsel hc.1 (fun hk => (hkeep (i, 1) (by simp) hk).1) ht h fun T' H' a' ht' hm' hd' hk' => evD_ok hG hsel hQ s _ hc.2 (fun x hx => hkeep x (by simp [hx])) T' H' a' ht' (hm'.trans hm) (hd'.trans hd) hk'
  | (i, 2) :: s, listed, hc, hkeep, T, H, a, ht, hm, hd, h => by
    simp only [chkD, Bool.and_eq_true] at hc
    exact evOne_ok hG hsel hc.1 (fun hk => (hkeep (i, 2) (by simp) hk).1) ht h fun T' H' a' ht' hm' hd' hk' => evD_ok hG hsel hQ s _ hc.2 (fun x hx => hkeep x (by simp [hx])) T' H' a' ht' (hm'.trans hm) (hd'.trans hd) hk'
  | (_, _ + 3) :: [], listed, hc, hkeep, T, H, a, ht, hm, hd, h => h.elim
  | (i, m + 3) :: (j, k) :: s, listed, hc, hkeep, T, H, a, ht, hm, hd, h => by
    simp only [chkD, Bool.and_eq_true, beq_iff_eq, decide_eq_true_eq, bne_iff_ne, ne_eq] at hc
    obtain ⟨⟨⟨⟨⟨⟨⟨⟨hri, hra⟩, hr1⟩, hr2⟩, hk3⟩, hij⟩, hgi⟩, hgj⟩, hrest⟩ := hc
    simp only [evD] at h
    obtain ⟨oi, hoi, hgi2⟩ : ∃ oi, ops[i]? = some oi ∧ oi.guard = none := by
      cases ho : ops[i]? with
      | none => rw [ho] at hgi; cases hgi
      | some o => rw [ho] at hgi; exact ⟨o, rfl, by simpa using hgi⟩
    obtain ⟨oj, hoj, hgj2⟩ : ∃ oj, ops[j]? = some oj ∧ oj.guard = none := by
      cases ho : ops[j]? with
      | none => rw [ho] at hgj; cases hgj
      | some o => rw [ho] at hgj; exact ⟨o, rfl, by simpa using hgj⟩
    have hrec := evD_ok hG hsel hQ s _ hrest (fun x hx => hkeep x (by simp [hx]))
    intro w hs
    refine ⟨fun h0 => by simp [h0] at hri, fun x hx => ?_⟩
    have hx' := (List.all_eq_true.1 hra) x hx
    simp only [Bool.or_eq_true, beq_iff_eq] at hx'
    rcases hx' with hx' | hx' <;> rw [hx']
    · exact evTwo_ok hG hoi hoj hgi2 hgj2 (fun hk => (hkeep (i, m + 3) (by simp) hk).2) (fun hk => (hkeep (j, k) (by simp) hk).2) hr1 ht hs h.1 fun T' H' a' ht' hm' hd' hk' => hrec T' H' a' ht' (hm'.trans hm) (hd'.trans hd) hk'
    · exact evTwo_ok hG hoj hoi hgj2 hgi2 (fun hk => (hkeep (j, k) (by simp) hk).2) (fun hk => (hkeep (i, m + 3) (by simp) hk).2) hr2 ht hs h.2 fun T' H' a' ht' hm' hd' hk' => by
        rw [Array.setIfInBounds_comm _ _ (Ne.symm hij)]
        exact hrec T' H' a' ht' (hm'.trans hm) (hd'.trans hd) hk'

/-- **A region whose order is open, by a schedule.** -/
theorem drawV {G : Gam} (hG : GamOk P G) (hmix : P.follows .mixedOrders = true) {id : Nat} {K : Exit → Tm → Hp → Prop} {T : Tm} {H : Hp} (s : List (Nat × Nat)) (hp : planOk ops s = true)
    (h : evD P G n ops.toList (K .normal) s T H) : WpV P r n (.region id ops true) K T H := by
  intro w0 mu a w hr ht hs hd
  simp only [planOk, Bool.and_eq_true, beq_iff_eq] at hp
  obtain ⟨⟨⟨hsel, hlen⟩, hchk⟩, hall⟩ := hp
  have hkeep : ∀ x ∈ s, keepOf s x.1 = true → x.2 ≠ 1 ∧ x.2 ≠ 3 := fun x hx hk => by
    have := (List.all_eq_true.1 hall) x hx
    simpa [hk] using this
  have hA := evD_ok (r := r) (w0 := w0) (mu := mu) hG (ops := ops) (keep := keepOf s) (M := marksOf H) (D := defersOf H) (Qn := fun a w => ∃ T H, K .normal T H ∧ TRel n T a ∧ Sat w0 mu H w ∧ a.defers = defersOf H) hsel
    (fun T' H' a' w' hk ht' hs' hm hd' => ⟨T', H', hk, ht', hs', by rw [hd', defersOf, defersOf, hm]⟩) s _ hchk hkeep T H a ht rfl hd h
  rw [hlen] at hA
  refine wpIn_mono (wpIn_region_any hmix (AnyC.any _ _ _ _ hA _ hs.drew)) ?_
  rintro e a' w' ⟨rfl, T', H', hk⟩
  exact ⟨T', H', hk⟩
end
end Go.Ev
