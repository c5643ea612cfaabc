/- EvH: 'evOp', all operations; a region in the order of its text; code; a function's contract from its body. -/
import Derived.Test.YtndioekjgmbomaaDoorEvG
set_option linter.unusedSimpArgs false
set_option linter.unusedVariables false
namespace Go.Ev
open Go.RowKit

def Fr (r : Option Nat) : Fence := { fn := fun _ => True, depth := none, alive := false, round := r }

/-- a call of function g, in whatever world is as told -/
def CallsV (P : Program) (g : FuncId) (args : List Value) (H : Hp) (K : Value → Hp → Prop) : Prop :=
  (∀ (as : Array Value) (w : World), (callFunc g as).run P w = .ok (.enter g as) w) ∧
  ∀ (w0 : World) (mu : Nat → Prop) (w : World), Sat w0 mu H w → CallsIn (Fr none) 0 P g args.toArray w fun e w' => ∃ v H', e = .returned v ∧ K v H' ∧ Sat w0 mu H' w' ∧ marksOf H' = marksOf H

/-- a call of 'yield' of the loop l -/
def YieldV (P : Program) (l : Nat) (args : List Value) (H : Hp) (K : Value → Hp → Prop) : Prop :=
  ∀ (w0 : World) (mu : Nat → Prop) (w : World), Sat w0 mu H w → YieldAt (Fr none) 0 P l args.toArray w fun e w' => ∃ v H', e = .returned v ∧ K v H' ∧ Sat w0 mu H' w' ∧ marksOf H' = marksOf H

/-- the answer v, and no memory that anybody sees -/
def Ret0 (v : Value) : Value → Hp → Prop := fun u N => u = v ∧ N = []

/-- functions whose answers hang on their arguments' values alone: what is known of them -/
abbrev Gam := FuncId → List Value → Option Value
/-- a function that the model itself answers for -/
def ExtV (P : Program) (g : FuncId) (args : List Value) (v : Value) : Prop := ∀ w : World, (callFunc g args.toArray).run P w = .ok (.value v) w
def GamOk (P : Program) (G : Gam) : Prop := ∀ g args v, G g args = some v → CallsV P g args [] (Ret0 v) ∨ ExtV P g args v
def addG (g : FuncId) (f : List Value → Option Value) (G : Gam) : Gam := fun h args => if h = g then f args else G h args
def noG : Gam := fun _ _ => none
theorem noG_ok (P : Program) : GamOk P noG := fun _ _ _ h => by cases h
theorem addG_ok {P : Program} {g : FuncId} {f : List Value → Option Value} {G : Gam} (hf : ∀ args v, f args = some v → CallsV P g args [] (Ret0 v)) (hG : GamOk P G) : GamOk P (addG g f G) := by
  intro h args v hv
  unfold addG at hv
  by_cases hh : h = g
  · rw [if_pos hh] at hv; subst hh; exact .inl (hf args v hv)
  · rw [if_neg hh] at hv; exact hG h args v hv
theorem addX_ok {P : Program} {g : FuncId} {f : List Value → Option Value} {G : Gam} (hf : ∀ args v, f args = some v → ExtV P g args v) (hG : GamOk P G) : GamOk P (addG g f G) := by
  intro h args v hv
  unfold addG at hv
  by_cases hh : h = g
  · rw [if_pos hh] at hv; subst hh; exact .inr (hf args v hv)
  · rw [if_neg hh] at hv; exact hG h args v hv

def evCall (P : Program) (G : Gam) (H : Hp) (f : Value) (args : List Value) (K : Value → Hp → Prop) : Prop :=
  match f with
  | .func (.func g) first captured => match G g (first.toList ++ args ++ captured.toList) with
    | some v => K v H
    | none => CallsV P g (first.toList ++ args ++ captured.toList) H K
  | .func (.yield l) first _ => YieldV P l (first.toList ++ args) H K
  | _ => False

def evP (P : Program) (T : Tm) (H : Hp) (op : Op) (K : Value → Hp → Prop) : Prop :=
  match evQ P T H op with
  | some v => K v H
  | none => False

def evOp (P : Program) (G : Gam) (T : Tm) (H : Hp) (op : Op) (K : Value → Hp → Prop) : Prop :=
  match op with
  | .alloc e => match zeroL P e with
    | some z => ∀ b, fresh b H → K (.pointer (some ⟨b, 0, none⟩)) (⟨b, 0, .cel e, z⟩ :: H)
    | none => False
  | .box e x => match opd T x with
    | some v => ∀ b, fresh b H → K (.pointer (some ⟨b, 0, none⟩)) (⟨b, 0, .cel e, v.cells.toList⟩ :: H)
    | none => False
  | .store t p x => match opd T p, opd T x with
    | some p, some x => match storeV P H t p x with
      | some H' => K undef H'
      | none => False
    | _, _ => False
  | .buildSlice t n parts => match optL (parts.toList.map fun x => (opd T x.2).map fun v => (x.1, v)) with
    | some ps => evLit P H t n ps K
    | none => False
  | .makeSlice t l c => match opd T l, opd T c with
    | some l, some c => evMake P H t l c K
    | _, _ => False
  | .convert s d x => match opd T x with
    | some x => if isStr P s && isBytes P d then evBytes H x K else if isBytes P s && isStr P d then (match strOfV P H s d x with
      | some v => K v H
      | none => False) else (match convV P s d x with
      | some v => K v H
      | none => match ptrC P H s d x with
        | some v => K v H
        | none => False)
    | none => False
  | .call c => match optL (c.args.toList.map (opd T)) with
    | some vs => match c.callee with
      | .value f => match opd T f with
        | some f => evCall P G H f vs K
        | none => False
      | .builtin .append => match vs, c.argTypes[0]?, c.argTypes[1]? with
        | [s, x], some st, some xt => evAppend P H st xt s x K
        | _, _, _ => False
      | .builtin .copy => match vs, c.argTypes[0]? with
        | [d, x], some dt => evCopy P H dt d x K
        | _, _ => False
      | .builtin .len => match vs, c.argTypes[0]? with
        | [x], some t => match lenV P t x with
          | some v => K v H
          | none => False
        | _, _ => False
      | .builtin .min => match minL vs with
        | some v => K v H
        | none => False
      | .builtin .max => match maxL vs with
        | some v => K v H
        | none => False
      | .builtin .unsafeSliceData => match vs with
        | [x] => match dataV x with
          | some v => K v H
          | none => False
        | _ => False
      | .builtin .unsafeString => match vs, c.argTypes.toList with
        | [p, m], [st, _] => match usV P H st p m with
          | some (s, H') => K (.string s) H'
          | none => False
        | _, _ => False
      | _ => False
    | none => False
  | .move x => match opd T x with
    | some v => K v H
    | none => False
  | .assign x => match opd T x with
    | some v => K v H
    | none => False
  | .pick c a b => evP P T H (.pick c a b) K
  | .load t p => evP P T H (.load t p) K
  | .binOp op t x y u => evP P T H (.binOp op t x y u) K
  | .unOp op t x => evP P T H (.unOp op t x) K
  | .fieldAddr s x f => evP P T H (.fieldAddr s x f) K
  | .field s x f => evP P T H (.field s x f) K
  | .indexAddr t x i => evP P T H (.indexAddr t x i) K
  | .index t x i => evP P T H (.index t x i) K
  | .slice t x lo hi mx => evP P T H (.slice t x lo hi mx) K
  | .extract t i => evP P T H (.extract t i) K
  | .build t ps => evP P T H (.build t ps) K
  | .makeFunc fn a b => evP P T H (.makeFunc fn a b) K
  | .nilCheck x => evP P T H (.nilCheck x) K
  | _ => False

theorem evP_of {P : Program} {T : Tm} {H : Hp} {op : Op} {K : Value → Hp → Prop} (h : evP P T H op K) : ∃ v, evQ P T H op = some v ∧ K v H := by
  unfold evP at h
  split at h
  · exact ⟨_, by assumption, h⟩
  · exact h.elim

theorem oper_about (P : Program) (o : Oper) (a : Act) (w : World) (r : Option Nat) : ∀ f, o.about P w a.eval = some f → (Fr r).fn f := fun _ _ => trivial

section
variable {P : Program} {r : Option Nat} {n : Nat} {T : Tm} {H : Hp} {a : Act} {w0 w : World} {mu : Nat → Prop} {o : Oper} {K : Value → Hp → Prop} {next : Act → World → Prop} {Q : Exit → Act → World → Prop}

/-- what is asked behind an operation -/
def Nx (w0 : World) (mu : Nat → Prop) (H : Hp) (a : Act) (d : Option Nat) (K : Value → Hp → Prop) (next : Act → World → Prop) : Prop :=
  ∀ v H' w', K v H' → Sat w0 mu H' w' → marksOf H' = marksOf H → next (a.put d v) w'

theorem wp_value {v : Value} {w' : World} (hd : ∀ c, o.op ≠ .defer c) (h : (execOp a.eval o).run P w = .ok (.value v) w') (hn : next (a.put o.dst v) w') : o.wpIn (Fr r) 0 P a w next Q := by
  refine ⟨fun _ _ => trivial, ?_⟩
  rw [Oper.semAt_eq _ _ _ hd, h]
  exact hn
theorem wp_skip' {w' : World} (hd : ∀ c, o.op ≠ .defer c) (h : (execOp a.eval o).run P w = .ok .skip w') (hn : next (a.put o.dst undef) w') : o.wpIn (Fr r) 0 P a w next Q := by
  refine ⟨fun _ _ => trivial, ?_⟩
  rw [Oper.semAt_eq _ _ _ hd, h]
  exact hn

theorem run_seman {s : Sem Value} {v : Value} {w' : World} (h : s.run P w = .ok v w') : (do pure (Next.value (← s)) : Sem Next).run P w = .ok (.value v) w' := by
  simp [h]

/-- **An operation: what 'evOp' asks is enough.** -/
theorem evOp_ok {G : Gam} (hG : GamOk P G) (ht : TRel n T a) (hs : Sat w0 mu H w) (h : evOp P G T H o.op K) (hn : Nx w0 mu H a o.dst K next) : o.wpIn (Fr r) 0 P a w next Q := by
  obtain ⟨dst, op, type, pos, after, guard⟩ := o
  dsimp only at h hn
  have quiet : ∀ {op' : Op} {v : Value}, op' = op → evQ P T H op' = some v → K v H → Oper.wpIn (Fr r) 0 P { dst := dst, op := op, type := type, pos := pos, after := after, guard := guard } a w next Q := by
    intro op' v he hq hk
    subst he
    refine wp_value (by intro c hc; dsimp only at hc; subst hc; simp [evQ] at hq) (run_evQ ht hs hq) ?_
    exact hn v H w hk hs rfl
  unfold evOp at h
  split at h
  · -- alloc
    split at h
    case h_2 => exact h.elim
    rename_i e _ z hz
    obtain ⟨zv, hz1, hz2⟩ := run_zeroL (w := w) hz
    have hrun : (Instr.alloc e true (.tuple #[])).run P w = .ok (.pointer (some ⟨w.heap.size, 0, none⟩)) (w.alloc (.cells zv.cells e)) := by
      simp [Instr.alloc, hz1, newVar, newRow]
    refine wp_value (by simp) (run_seman hrun) (hn _ _ _ (h w.heap.size hs.fresh_size) ?_ (by simp [marksOf]))
    refine hs.alloc rfl ?_
    unfold Ent.holds
    exact ⟨rfl, by rw [← hz2]; simpa using World.alloc_heap_new w (.cells zv.cells e)⟩
  · -- box
    split at h
    case h_2 => exact h.elim
    rename_i e x _ v hx
    have hrun : (Instr.box e (a.eval x)).run P w = .ok (.pointer (some ⟨w.heap.size, 0, none⟩)) (w.alloc (.cells v.cells e)) := by
      simp [Instr.box, opd_eval ht hx, newVar, newRow]
    refine wp_value (by simp) (run_seman hrun) (hn _ _ _ (h w.heap.size hs.fresh_size) ?_ (by simp [marksOf]))
    refine hs.alloc rfl ?_
    unfold Ent.holds
    exact ⟨rfl, by simpa using World.alloc_heap_new w (.cells v.cells e)⟩
  · -- store
    split at h
    case h_2 => exact h.elim
    rename_i t p x _ _ pv xv hp hx
    split at h
    case h_2 => exact h.elim
    rename_i _ H' hst
    obtain ⟨w', h1, h2, h3⟩ := hs.storeV (P := P) hst
    refine wp_skip' (by simp) ?_ (hn _ _ _ h h2 h3)
    simp [execOp, opd_eval ht hp, opd_eval ht hx, h1]
  · -- buildSlice
    split at h
    case h_2 => exact h.elim
    rename_i t m parts _ ps hps
    obtain ⟨v, H', w', h1, h2, h3, h4⟩ := hs.lit (P := P) h
    refine wp_value (by simp) ?_ (hn _ _ _ h2 h3 h4)
    simp only [execOp]
    rw [show (parts.map fun (i, x) => (i, a.eval x)) = ps.toArray by rw [← optL_parts ht hps, ← Array.toList_inj]; simp]
    simp [h1]
  · -- makeSlice
    split at h
    case h_2 => exact h.elim
    rename_i t l c _ _ lv cv hl hc
    obtain ⟨v, H', w', h1, h2, h3, h4⟩ := hs.make (P := P) h
    refine wp_value (by simp) ?_ (hn _ _ _ h2 h3 h4)
    simp [execOp, opd_eval ht hl, opd_eval ht hc, h1]
  · -- convert
    split at h
    case h_2 => exact h.elim
    rename_i s d x _ xv hx
    split at h
    · rename_i hc
      simp only [Bool.and_eq_true] at hc
      obtain ⟨v, H', w', h1, h2, h3, h4⟩ := hs.bytes (P := P) hc.1 hc.2 h
      refine wp_value (by simp) ?_ (hn _ _ _ h2 h3 h4)
      simp [execOp, opd_eval ht hx, h1]
    · split at h
      · split at h
        case h_2 => exact h.elim
        rename_i _ v hv
        refine wp_value (by simp) ?_ (hn _ _ _ h hs rfl)
        simp [execOp, opd_eval ht hx, run_strOfV hs hv]
      · split at h
        · rename_i _ v hv
          refine wp_value (by simp) ?_ (hn _ _ _ h hs rfl)
          simp [execOp, opd_eval ht hx, run_convV hv]
        split at h
        case h_2 => exact h.elim
        rename_i _ v hv
        refine wp_value (by simp) ?_ (hn _ _ _ h hs rfl)
        simp [execOp, opd_eval ht hx, run_ptrC hs hv]
  · -- call
    split at h
    case h_2 => exact h.elim
    rename_i c _ vs hvs
    obtain ⟨callee, args, argTypes⟩ := c
    dsimp only at hvs h
    have hargs : args.map a.eval = vs.toArray := by rw [← optL_eval ht hvs, ← Array.toList_inj]; simp
    split at h
    · rename_i f
      split at h
      case h_2 => exact h.elim
      rename_i _ fv hf
      unfold evCall at h
      split at h
      · rename_i g first captured
        have h : CallsV P g (first.toList ++ vs ++ captured.toList) H K ∨ ∃ v, ExtV P g (first.toList ++ vs ++ captured.toList) v ∧ K v H := by
          split at h
          · rename_i _ v hv
            rcases hG _ _ _ hv with hGc | hGx
            case inr => exact .inr ⟨v, hGx, h⟩
            refine .inl ⟨hGc.1, fun w0 mu w hs => ?_⟩
            have hs0 : Sat w (fun _ => False) [] w := ⟨rfl, rfl, rfl, Nat.le_refl _, fun _ _ _ => rfl, (fun e he => by cases he), (fun e he => by cases he), List.Pairwise.nil⟩
            refine (hGc.2 w (fun _ => False) w hs0).mono ?_
            rintro e w' ⟨u, N, rfl, ⟨rfl, rfl⟩, hs', _⟩
            refine ⟨u, H, rfl, h, ⟨hs'.os.trans hs.os, hs'.tape.trans hs.tape, hs'.output.trans hs.output, Nat.le_trans hs.size hs'.size, ?_, ?_, hs.own, hs.apart⟩, rfl⟩
            · intro b hb hm
              rw [hs'.old b (Nat.lt_of_lt_of_le hb hs.size) id]
              exact hs.old b hb hm
            · exact fun x hx => Ent.holds_of (hs.ents x hx) (hs'.old _ (Ent.lt (hs.ents x hx)) id)
          · exact .inl h
        rcases h with h | ⟨v, hx, hk⟩
        case inr =>
          refine wp_value (by simp) ?_ (hn _ _ _ hk hs rfl)
          have := hx w
          rw [show (first.toList ++ vs ++ captured.toList).toArray = first ++ vs.toArray ++ captured by rw [← Array.toList_inj]; simp] at this
          rw [Array.append_assoc] at this
          simp [execOp, resolve, opd_eval ht hf, Deferred.ofValue, hargs, invoke, this]
        obtain ⟨hent, hc⟩ := h
        refine ⟨fun _ _ => trivial, ?_⟩
        rw [Oper.semAt_eq _ _ _ (by simp)]
        have hrun : (execOp a.eval { dst := dst, op := .call { callee := .value f, args := args, argTypes := argTypes }, type := type, pos := pos, after := after, guard := guard }).run P w = .ok (.enter g (first ++ vs.toArray ++ captured)) w := by
          simp [execOp, resolve, opd_eval ht hf, Deferred.ofValue, hargs, invoke, hent]
        rw [hrun]
        refine ⟨fun hh => by simp [Fr] at hh, ?_⟩
        have := hc w0 mu w hs
        rw [show (first.toList ++ vs ++ captured.toList).toArray = first ++ vs.toArray ++ captured by rw [← Array.toList_inj]; simp] at this
        refine CallsIn.mono (F := Fr r) (n := 0) this ?_
        rintro e w' ⟨v, H', rfl, hk, hs', hm⟩
        exact hn v H' w' hk hs' hm
      · rename_i l first captured
        obtain ⟨fn, tmps, assign, body, hy, hR⟩ := h w0 mu w hs
        refine ⟨fun _ _ => trivial, ?_⟩
        rw [Oper.semAt_eq _ _ _ (by simp)]
        have hrun : (execOp a.eval { dst := dst, op := .call { callee := .value f, args := args, argTypes := argTypes }, type := type, pos := pos, after := after, guard := guard }).run P w = .ok (.round l fn tmps assign body) w := by
          rw [show (first.toList ++ vs).toArray = first ++ vs.toArray by rw [← Array.toList_inj]; simp] at hy
          simp [execOp, resolve, opd_eval ht hf, Deferred.ofValue, hargs, invoke, hy]
        rw [hrun]
        refine ⟨fun hh => by simp [Fr] at hh, ?_⟩
        refine RoundIn.mono (F := Fr r) (n := 0) hR ?_
        rintro e w' ⟨v, H', rfl, hk, hs', hm⟩
        exact hn v H' w' hk hs' hm
      · exact h.elim
    · split at h
      case h_2 => exact h.elim
      rename_i _ _ _ s x st xt h0 h1
      obtain ⟨v, H', w', r1, r2, r3, r4⟩ := hs.append (P := P) (ty := type) h argTypes h0 h1
      refine wp_value (by simp) ?_ (hn _ _ _ r2 r3 r4)
      simp [execOp, resolve, hargs, invoke, builtin, r1]
    · split at h
      case h_2 => exact h.elim
      rename_i _ _ d x dt h0
      obtain ⟨v, H', w', r1, r2, r3, r4⟩ := hs.copy (P := P) (ty := type) h argTypes h0
      refine wp_value (by simp) ?_ (hn _ _ _ r2 r3 r4)
      simp [execOp, resolve, hargs, invoke, builtin, r1]
    · split at h
      case h_2 => exact h.elim
      rename_i _ _ x t h0
      split at h
      case h_2 => exact h.elim
      rename_i _ v hv
      refine wp_value (by simp) ?_ (hn _ _ _ h hs rfl)
      simp [execOp, resolve, hargs, invoke, builtin, run_lenV (w := w) argTypes hv h0 type]
    · split at h
      case h_2 => exact h.elim
      rename_i _ v hv
      refine wp_value (by simp) ?_ (hn _ _ _ h hs rfl)
      simp [execOp, resolve, hargs, invoke, builtin, run_minL (P := P) (w := w) argTypes type hv]
    · split at h
      case h_2 => exact h.elim
      rename_i _ v hv
      refine wp_value (by simp) ?_ (hn _ _ _ h hs rfl)
      simp [execOp, resolve, hargs, invoke, builtin, run_maxL (P := P) (w := w) argTypes type hv]
    · split at h
      case h_2 => exact h.elim
      rename_i _ _ x
      split at h
      case h_2 => exact h.elim
      rename_i _ v hv
      refine wp_value (by simp) ?_ (hn _ _ _ h hs rfl)
      simp [execOp, resolve, hargs, invoke, builtin, run_dataV (P := P) (w := w) argTypes type hv]
    · split at h
      case h_2 => exact h.elim
      rename_i _ _ _ p m st it hat
      split at h
      case h_2 => exact h.elim
      rename_i _ s H' hv
      obtain ⟨w', r1, r2, r3⟩ := hs.us (it := it) (ty := type) hv
      have hat' : argTypes = #[st, it] := by rw [← Array.toList_inj]; exact hat
      refine wp_value (by simp) ?_ (hn _ _ _ h r2 r3)
      simp [execOp, resolve, hargs, invoke, builtin, hat', r1]
    · exact h.elim
  · split at h
    case h_2 => exact h.elim
    rename_i x _ v hx
    exact quiet rfl (by simpa [evQ] using hx) h
  · split at h
    case h_2 => exact h.elim
    rename_i x _ v hx
    exact quiet rfl (by simpa [evQ] using hx) h
  all_goals first
    | exact False.elim h
    | (obtain ⟨v, h1, h2⟩ := evP_of h; exact quiet rfl h1 h2)
end

/-! ### a region in the order of its text -/
/-- does operation 'o' come up? (A: it does; B: it does not) -/
def gd (ops : List Oper) (T : Tm) (g : Option (Nat × Bool)) (A B : Prop) : Prop :=
  match g with
  | none => A
  | some (j, want) => match ops[j]? with
    | some oj => match oj.dst with
      | some t => match getT T t with
        | some (.bool b) => (b = want → A) ∧ (b = !want → B)
        | some (.tuple _) => B
        | _ => False
      | none => False
    | none => False

def evOps (P : Program) (G : Gam) (n : Nat) (ops : List Oper) (K : Tm → Hp → Prop) : List Oper → Tm → Hp → Prop
  | [], T, H => K T H
  | o :: r, T, H => gd ops T o.guard (evOp P G T H o.op fun v H' => evOps P G n ops K r (putT n T o.dst v) H') (evOps P G n ops K r (putT n T o.dst undef) H)

theorem gd_ok {ops : Array Oper} {n : Nat} {T : Tm} {a : Act} (ht : TRel n T a) {o : Oper} {A B : Prop} (h : gd ops.toList T o.guard A B) :
    (Region.wanted o (yielded ops a.tmps) = true ∧ A) ∨ (Region.wanted o (yielded ops a.tmps) = false ∧ B) := by
  unfold gd at h
  unfold Region.wanted
  split at h
  · exact .inl ⟨by simp [*], h⟩
  · rename_i j want hg
    rw [hg]
    dsimp only
    split at h
    case h_2 => exact h.elim
    rename_i oj hj
    have hj' : ops[j]? = some oj := by simpa using hj
    split at h
    case h_2 => exact h.elim
    rename_i t hd
    have hy : ∀ v, getT T t = some v → yielded ops a.tmps j = (match v with | .bool b => some b | _ => none) := by
      intro v hv
      have := ht.get t v hv
      simp only [yielded, hj', Option.bind_some, hd, this]
      cases v <;> rfl
    split at h
    · rename_i b hb
      rw [hy _ hb]
      dsimp only
      by_cases hbw : b = want
      · exact .inl ⟨by simp [hbw], h.1 hbw⟩
      · exact .inr ⟨by simp [hbw], h.2 (by cases b <;> cases want <;> simp_all)⟩
    · rename_i vs hb
      rw [hy _ hb]
      exact .inr ⟨by simp, h⟩
    · exact h.elim

section
variable {P : Program} {r : Option Nat} {n : Nat} {w0 : World} {mu : Nat → Prop}

theorem evOps_ok {G : Gam} (hG : GamOk P G) {ops : Array Oper} {Q : Exit → Act → World → Prop} {K : Tm → Hp → Prop} {M : List Nat} {D : List Deferred}
    (hQ : ∀ T H a w, K T H → TRel n T a → Sat w0 mu H w → marksOf H = M → a.defers = D → Q .normal a w) :
    ∀ (l : List Oper) (i : Nat), ops.toList.drop i = l → ∀ (T : Tm) (H : Hp) (a : Act) (w : World), TRel n T a → Sat w0 mu H w → marksOf H = M → a.defers = D →
      evOps P G n ops.toList K l T H → wpOpsIn (Fr r) 0 P ops Q (List.range' i l.length) a w
  | [], i, _, T, H, a, w, ht, hs, hm, hd, h => hQ T H a w h ht hs hm hd
  | o :: l, i, hl, T, H, a, w, ht, hs, hm, hd, h => by
    have hi : i < ops.toList.length := by
      rcases Nat.lt_or_ge i ops.toList.length with h1 | h1
      · exact h1
      · rw [List.drop_eq_nil_of_le h1] at hl; cases hl
    rw [List.drop_eq_getElem_cons hi] at hl
    injection hl with ho hl'
    have ho' : ops[i]? = some o := by
      rw [← ho]; simp
    rw [List.length_cons, List.range'_succ]
    simp only [wpOpsIn, ho']
    have hput : ∀ (v : Value), (a.put o.dst v).defers = a.defers := by
      intro v; cases o.dst <;> rfl
    rcases gd_ok ht h with ⟨hw, hA⟩ | ⟨hw, hB⟩
    · rw [if_pos hw]
      refine evOp_ok hG ht hs hA ?_
      intro v H' w' hk hs' hm'
      exact evOps_ok hG hQ l (i + 1) hl' _ H' _ w' (ht.put o.dst v) hs' (hm'.trans hm) ((hput v).trans hd) hk
    · rw [if_neg (by simp [hw])]
      exact ⟨fun _ _ => trivial, evOps_ok hG hQ l (i + 1) hl' _ H _ w (ht.put o.dst undef) hs hm ((hput _).trans hd) hB⟩

/-! ### code -/
/-- in a round of the loop l: its record lies there, and nobody here writes it -/
def RoundOk (r : Option Nat) (w0 : World) (mu : Nat → Prop) : Prop := ∀ l, r = some l → l < w0.heap.size ∧ ¬ mu l ∧ ∃ rec, w0.heap[l]? = some (.loop rec)
theorem RoundOk.none_ (w0 : World) (mu : Nat → Prop) : RoundOk none w0 mu := fun _ h => by cases h

/-- what code must do, in whatever world is as told -/
def WpV (P : Program) (r : Option Nat) (n : Nat) (c : Code) (K : Exit → Tm → Hp → Prop) (T : Tm) (H : Hp) : Prop :=
  ∀ (w0 : World) (mu : Nat → Prop) (a : Act) (w : World), RoundOk r w0 mu → TRel n T a → Sat w0 mu H w → a.defers = defersOf H →
    c.wpIn (Fr r) 0 P (fun e a w => ∃ T H, K e T H ∧ TRel n T a ∧ Sat w0 mu H w ∧ a.defers = defersOf H) a w

def thenK (k : Tm → Hp → Prop) (K : Exit → Tm → Hp → Prop) : Exit → Tm → Hp → Prop
  | .normal, T, H => k T H
  | e, T, H => K e T H
def blockK (id : Nat) (K : Exit → Tm → Hp → Prop) : Exit → Tm → Hp → Prop
  | .exit id', T, H => if id' = id then K .normal T H else K (.exit id') T H
  | e, T, H => K e T H

end
end Go.Ev
