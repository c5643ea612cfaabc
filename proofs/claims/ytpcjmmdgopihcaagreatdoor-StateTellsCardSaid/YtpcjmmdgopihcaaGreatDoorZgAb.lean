/- Texts of this claim, merged by program: E2. -/
import Derived.Test.YtpcjmmdgopihcaaGreatDoorZgAa
import Derived.OrdersIn
set_option linter.unusedSimpArgs false
set_option linter.unusedVariables false
namespace Go.Ev
open Go.RowKit
def Fr (r : Option Nat) : Fence := { fn := fun _ => True, depth := none, alive := false, round := r }
def CallsV (P : Program) (g : FuncId) (args : List Value) (H : Hp) (K : Value → Hp → Prop) : Prop :=
 (∀ (as : Array Value) (w : World), (callFunc g as).run P w = .ok (.enter g as) w) ∧
 ∀ (w0 : World) (mu : Nat → Prop) (w : World), Sat w0 mu H w → CallsIn (Fr none) 0 P g args.toArray w fun e w' => ∃ v H', e = .returned v ∧ K v H' ∧ Sat w0 mu H' w' ∧ marksOf H' = marksOf H
def YieldV (P : Program) (l : Nat) (args : List Value) (H : Hp) (K : Value → Hp → Prop) : Prop :=
 ∀ (w0 : World) (mu : Nat → Prop) (w : World), Sat w0 mu H w → YieldAt (Fr none) 0 P l args.toArray w fun e w' => ∃ v H', e = .returned v ∧ K v H' ∧ Sat w0 mu H' w' ∧ marksOf H' = marksOf H
def Ret0 (v : Value) : Value → Hp → Prop := fun u N => u = v ∧ N = []
abbrev Gam := FuncId → List Value → Hp → Option Value
def ExtV (P : Program) (g : FuncId) (args : List Value) (v : Value) : Prop := ∀ w : World, (callFunc g args.toArray).run P w = .ok (.value v) w
def ExtM (P : Program) (g : FuncId) (args : List Value) (H : Hp) (v : Value) : Prop := ∀ (w0 : World) (mu : Nat → Prop) (w : World), Sat w0 mu H w → (callFunc g args.toArray).run P w = .ok (.value v) w
def GamOk (P : Program) (G : Gam) : Prop := ∀ g args H v, G g args H = some v → CallsV P g args [] (Ret0 v) ∨ ExtM P g args H v
def addG (g : FuncId) (f : List Value → Option Value) (G : Gam) : Gam := fun h args H => if h = g then f args else G h args H
def addM (g : FuncId) (f : List Value → Hp → Option Value) (G : Gam) : Gam := fun h args H => if h = g then f args H else G h args H
def noG : Gam := fun _ _ _ => none
theorem noG_ok (P : Program) : GamOk P noG := fun _ _ _ _ h => by cases h
theorem addG_ok {P : Program} {g : FuncId} {f : List Value → Option Value} {G : Gam} (hf : ∀ args v, f args = some v → CallsV P g args [] (Ret0 v)) (hG : GamOk P G) : GamOk P (addG g f G) := by
 intro h args H v hv
 unfold addG at hv
 by_cases hh : h = g
 · rw [if_pos hh] at hv; subst hh; exact .inl (hf args v hv)
 · rw [if_neg hh] at hv; exact hG h args H v hv
theorem addX_ok {P : Program} {g : FuncId} {f : List Value → Option Value} {G : Gam} (hf : ∀ args v, f args = some v → ExtV P g args v) (hG : GamOk P G) : GamOk P (addG g f G) := by
 intro h args H v hv
 unfold addG at hv
 by_cases hh : h = g
 · rw [if_pos hh] at hv; subst hh; exact .inr fun w0 mu w _ => hf args v hv w
 · rw [if_neg hh] at hv; exact hG h args H v hv
theorem addM_ok {P : Program} {g : FuncId} {f : List Value → Hp → Option Value} {G : Gam} (hf : ∀ args H v, f args H = some v → ExtM P g args H v) (hG : GamOk P G) : GamOk P (addM g f G) := by
 intro h args H v hv
 unfold addM at hv
 by_cases hh : h = g
 · rw [if_pos hh] at hv; subst hh; exact .inr (hf args H v hv)
 · rw [if_neg hh] at hv; exact hG h args H v hv
def evCall (P : Program) (G : Gam) (H : Hp) (f : Value) (args : List Value) (K : Value → Hp → Prop) : Prop :=
 match f with
 | .func (.func g) first captured => match G g (first.toList ++ args ++ captured.toList) H with
   | some v => K v H
   | none => CallsV P g (first.toList ++ args ++ captured.toList) H K
 | .func (.yield l) first _ => YieldV P l (first.toList ++ args) H K
 | _ => False
def evP (P : Program) (T : Tm) (H : Hp) (op : Op) (K : Value → Hp → Prop) : Prop :=
 match evQ P T H op with
 | some v => K v H
 | none => False
abbrev bytesFlag : FuncId := 999999
def bytesBad : Hp := [⟨0, 0, .obj (.deferred none), [undef]⟩]
def flagM : List Value → Hp → Option Value := fun _ H => match H with
 | [⟨0, 0, .obj (.deferred none), [_]⟩] => some undef
 | _ => none
theorem flagM_ok {P : Program} (args : List Value) (H : Hp) (v : Value) (h : flagM args H = some v) : ExtM P bytesFlag args H v := by
 intro w0 mu w hs
 unfold flagM at h
 split at h
 · have := hs.ents _ (List.mem_cons_self ..)
   unfold Ent.holds at this
   exact absurd this.1 (by simp)
 · cases h
def evOp (P : Program) (G : Gam) (T : Tm) (H : Hp) (op : Op) (K : Value → Hp → Prop) : Prop :=
 match op with
 | .alloc e => match zeroL P e with
   | some z => ∀ b, fresh b H → K (.pointer (some ⟨b, 0, none⟩)) (⟨b, 0, .cel e, z⟩ :: H)
   | none => False
 | .box e x => match opd T x with
   | some v => ∀ b, fresh b H → K (.pointer (some ⟨b, 0, none⟩)) (⟨b, 0, .cel e, v.cells.toList⟩ :: H)
   | none => False
 | .store t p x => match opd T p, opd T x with
   | some p, some x => match storeV P H t p x with
     | some H' => K undef H'
     | none => False
   | _, _ => False
 | .buildSlice t n parts => match optL (parts.toList.map fun x => (opd T x.2).map fun v => (x.1, v)) with
   | some ps => evLit P H t n ps K
   | none => False
 | .makeSlice t l c => match opd T l, opd T c with
   | some l, some c => evMake P H t l c K
   | _, _ => False
 | .convert s d x => match opd T x with
   | some x => if isStr P s && isBytes P d then (if (G bytesFlag [] bytesBad).isSome = true then evBytesW P d H x K else evBytes H x K) else if isBytes P s && isStr P d then (match strOfV P H s d x with
     | some v => K v H
     | none => False) else (match convV P s d x with
     | some v => K v H
     | none => match ptrC P H s d x with
       | some v => K v H
       | none => False)
   | none => False
 | .call c => match optL (c.args.toList.map (opd T)) with
   | some vs => match c.callee with
     | .value f => match opd T f with
       | some f => evCall P G H f vs K
       | none => False
     | .builtin .append => match vs, c.argTypes[0]?, c.argTypes[1]? with
       | [s, x], some st, some xt => match intI P xt with
         | some _ => evGrow P H st s x K
         | none => evAppend P H st xt s x K
       | _, _, _ => False
     | .builtin .copy => match vs, c.argTypes[0]? with
       | [d, x], some dt => evCopy P H dt d x K
       | _, _ => False
     | .builtin .clear => match vs, c.argTypes[0]? with
       | [x], some st => evClear P H st x K
       | _, _ => False
     | .builtin .len => match vs, c.argTypes[0]? with
       | [x], some t => match lenV P t x with
         | some v => K v H
         | none => False
       | _, _ => False
     | .builtin .cap => match vs, c.argTypes[0]? with
       | [x], some t => match capV P t x with
         | some v => K v H
         | none => False
       | _, _ => False
     | .builtin .min => match minL vs with
       | some v => K v H
       | none => False
     | .builtin .max => match maxL vs with
       | some v => K v H
       | none => False
     | .builtin .unsafeSliceData => match vs with
       | [x] => match dataV x with
         | some v => K v H
         | none => False
       | _ => False
     | .builtin .unsafeString => match vs, c.argTypes.toList with
       | [p, m], [st, _] => match usV P H st p m with
         | some (s, H') => K (.string s) H'
         | none => False
       | _, _ => False
     | _ => False
   | none => False
 | .move x => match opd T x with
   | some v => K v H
   | none => False
 | .assign x => match opd T x with
   | some v => K v H
   | none => False
 | .pick c a b => evP P T H (.pick c a b) K
 | .load t p => evP P T H (.load t p) K
 | .binOp op t x y u => evP P T H (.binOp op t x y u) K
 | .unOp op t x => evP P T H (.unOp op t x) K
 | .makeInterface t x => evP P T H (.makeInterface t x) K
 | .fieldAddr s x f => evP P T H (.fieldAddr s x f) K
 | .field s x f => evP P T H (.field s x f) K
 | .indexAddr t x i => evP P T H (.indexAddr t x i) K
 | .index t x i => evP P T H (.index t x i) K
 | .slice t x lo hi mx => evP P T H (.slice t x lo hi mx) K
 | .extract t i => evP P T H (.extract t i) K
 | .build t ps => evP P T H (.build t ps) K
 | .makeFunc fn a b => evP P T H (.makeFunc fn a b) K
 | .makeMap t none => ∀ b, fresh b H → K (.map (some b)) (⟨b, 0, .obj (.map #[] 0), []⟩ :: H)
 | .lookup t m k ok => match opd T m, opd T k with
   | some m, some k => evLookup P H t m k ok K
   | _, _ => False
 | .mapUpdate t m k v => match opd T m, opd T k, opd T v with
   | some m, some k, some v => evMapUpd P H t m k v K
   | _, _, _ => False
 | .nilCheck x => evP P T H (.nilCheck x) K
 | _ => False
theorem evP_of {P : Program} {T : Tm} {H : Hp} {op : Op} {K : Value → Hp → Prop} (h : evP P T H op K) : ∃ v, evQ P T H op = some v ∧ K v H := by
 unfold evP at h
 split at h
 · exact ⟨_, by assumption, h⟩
 · exact h.elim
section
variable {P : Program} {r : Option Nat} {n : Nat} {T : Tm} {H : Hp} {a : Act} {w0 w : World} {mu : Nat → Prop} {o : Oper} {K : Value → Hp → Prop} {next : Act → World → Prop} {Q : Exit → Act → World → Prop}
def Nx (w0 : World) (mu : Nat → Prop) (H : Hp) (a : Act) (d : Option Nat) (K : Value → Hp → Prop) (next : Act → World → Prop) : Prop :=
 ∀ v H' w', K v H' → Sat w0 mu H' w' → marksOf H' = marksOf H → next (a.put d v) w'
theorem wp_value {v : Value} {w' : World} (hd : ∀ c, o.op ≠ .defer c) (h : (execOp a.eval o).run P w = .ok (.value v) w') (hn : next (a.put o.dst v) w') : o.wpIn (Fr r) 0 P a w next Q := by
 refine ⟨fun _ _ => trivial, ?_⟩
 rw [Oper.semAt_eq _ _ _ hd, h]
 exact hn
theorem wp_skip' {w' : World} (hd : ∀ c, o.op ≠ .defer c) (h : (execOp a.eval o).run P w = .ok .skip w') (hn : next (a.put o.dst undef) w') : o.wpIn (Fr r) 0 P a w next Q := by
 refine ⟨fun _ _ => trivial, ?_⟩
 rw [Oper.semAt_eq _ _ _ hd, h]
 exact hn
theorem run_seman {s : Sem Value} {v : Value} {w' : World} (h : s.run P w = .ok v w') : (do pure (Next.value (← s)) : Sem Next).run P w = .ok (.value v) w' := by
 simp [h]
theorem evOp_ok {G : Gam} (hG : GamOk P G) (ht : TRel n T a) (hs : Sat w0 mu H w) (h : evOp P G T H o.op K) (hn : Nx w0 mu H a o.dst K next) : o.wpIn (Fr r) 0 P a w next Q := by
 obtain ⟨dst, op, type, pos, after, guard⟩ := o
 dsimp only at h hn
 have quiet : ∀ {op' : Op} {v : Value}, op' = op → evQ P T H op' = some v → K v H → Oper.wpIn (Fr r) 0 P { dst := dst, op := op, type := type, pos := pos, after := after, guard := guard } a w next Q := by
  intro op' v he hq hk
  subst he
  refine wp_value (by intro c hc; dsimp only at hc; subst hc; simp [evQ] at hq) (run_evQ ht hs hq) ?_
  exact hn v H w hk hs rfl
 unfold evOp at h
 split at h
 · -- alloc
   split at h
   case h_2 => exact h.elim
   rename_i e _ z hz
   obtain ⟨zv, hz1, hz2⟩ := run_zeroL (w := w) hz
   have hrun : (Instr.alloc e true (.tuple #[])).run P w = .ok (.pointer (some ⟨w.heap.size, 0, none⟩)) (w.alloc (.cells zv.cells e)) := by
    simp [Instr.alloc, hz1, newVar, newRow]
   refine wp_value (by simp) (run_seman hrun) (hn _ _ _ (h w.heap.size hs.fresh_size) ?_ (by simp [marksOf]))
   refine hs.alloc rfl ?_
   unfold Ent.holds
   exact ⟨rfl, by rw [← hz2]; simpa using World.alloc_heap_new w (.cells zv.cells e)⟩
 · -- box
   split at h
   case h_2 => exact h.elim
   rename_i e x _ v hx
   have hrun : (Instr.box e (a.eval x)).run P w = .ok (.pointer (some ⟨w.heap.size, 0, none⟩)) (w.alloc (.cells v.cells e)) := by
    simp [Instr.box, opd_eval ht hx, newVar, newRow]
   refine wp_value (by simp) (run_seman hrun) (hn _ _ _ (h w.heap.size hs.fresh_size) ?_ (by simp [marksOf]))
   refine hs.alloc rfl ?_
   unfold Ent.holds
   exact ⟨rfl, by simpa using World.alloc_heap_new w (.cells v.cells e)⟩
 · -- store
   split at h
   case h_2 => exact h.elim
   rename_i t p x _ _ pv xv hp hx
   split at h
   case h_2 => exact h.elim
   rename_i _ H' hst
   obtain ⟨w', h1, h2, h3⟩ := hs.storeV (P := P) hst
   refine wp_skip' (by simp) ?_ (hn _ _ _ h h2 h3)
   simp [execOp, opd_eval ht hp, opd_eval ht hx, h1]
 · -- buildSlice
   split at h
   case h_2 => exact h.elim
   rename_i t m parts _ ps hps
   obtain ⟨v, H', w', h1, h2, h3, h4⟩ := hs.lit (P := P) h
   refine wp_value (by simp) ?_ (hn _ _ _ h2 h3 h4)
   simp only [execOp]
   rw [show (parts.map fun (i, x) => (i, a.eval x)) = ps.toArray by rw [← optL_parts ht hps, ← Array.toList_inj]; simp]
   simp [h1]
 · -- makeSlice
   split at h
   case h_2 => exact h.elim
   rename_i t l c _ _ lv cv hl hc
   obtain ⟨v, H', w', h1, h2, h3, h4⟩ := hs.make (P := P) h
   refine wp_value (by simp) ?_ (hn _ _ _ h2 h3 h4)
   simp [execOp, opd_eval ht hl, opd_eval ht hc, h1]
 · -- convert
   split at h
   case h_2 => exact h.elim
   rename_i s d x _ xv hx
   split at h
   · rename_i hc
     simp only [Bool.and_eq_true] at hc
     obtain ⟨v, H', w', h1, h2, h3, h4⟩ : ∃ v H' w', (convert s d xv).run P w = .ok v w' ∧ _ ∧ Sat w0 mu H' w' ∧ marksOf H' = marksOf H := by
      split at h
      · exact hs.bytesW (P := P) hc.1 hc.2 h
      · exact hs.bytes (P := P) hc.1 hc.2 h
     refine wp_value (by simp) ?_ (hn _ _ _ h2 h3 h4)
     simp [execOp, opd_eval ht hx, h1]
   · split at h
     · split at h
       case h_2 => exact h.elim
       rename_i _ v hv
       refine wp_value (by simp) ?_ (hn _ _ _ h hs rfl)
       simp [execOp, opd_eval ht hx, run_strOfV hs hv]
     · split at h
       · rename_i _ v hv
         refine wp_value (by simp) ?_ (hn _ _ _ h hs rfl)
         simp [execOp, opd_eval ht hx, run_convV hv]
       split at h
       case h_2 => exact h.elim
       rename_i _ v hv
       refine wp_value (by simp) ?_ (hn _ _ _ h hs rfl)
       simp [execOp, opd_eval ht hx, run_ptrC hs hv]
 · -- call
   split at h
   case h_2 => exact h.elim
   rename_i c _ vs hvs
   obtain ⟨callee, args, argTypes⟩ := c
   dsimp only at hvs h
   have hargs : args.map a.eval = vs.toArray := by rw [← optL_eval ht hvs, ← Array.toList_inj]; simp
   split at h
   · rename_i f
     split at h
     case h_2 => exact h.elim
     rename_i _ fv hf
     unfold evCall at h
     split at h
     · rename_i g first captured
       have h : CallsV P g (first.toList ++ vs ++ captured.toList) H K ∨ ∃ v, ExtM P g (first.toList ++ vs ++ captured.toList) H v ∧ K v H := by
        split at h
        · rename_i _ v hv
          rcases hG _ _ _ _ hv with hGc | hGx
          case inr => exact .inr ⟨v, hGx, h⟩
          refine .inl ⟨hGc.1, fun w0 mu w hs => ?_⟩
          have hs0 : Sat w (fun _ => False) [] w := ⟨rfl, rfl, rfl, Nat.le_refl _, fun _ _ _ => rfl, (fun e he => by cases he), (fun e he => by cases he), List.Pairwise.nil⟩
          refine (hGc.2 w (fun _ => False) w hs0).mono ?_
          rintro e w' ⟨u, N, rfl, ⟨rfl, rfl⟩, hs', _⟩
          refine ⟨u, H, rfl, h, ⟨hs'.os.trans hs.os, hs'.tape.trans hs.tape, hs'.output.trans hs.output, Nat.le_trans hs.size hs'.size, ?_, ?_, hs.own, hs.apart⟩, rfl⟩
          · intro b hb hm
            rw [hs'.old b (Nat.lt_of_lt_of_le hb hs.size) id]
            exact hs.old b hb hm
          · exact fun x hx => Ent.holds_of (hs.ents x hx) (hs'.old _ (Ent.lt (hs.ents x hx)) id)
        · exact .inl h
       rcases h with h | ⟨v, hx, hk⟩
       case inr =>
        refine wp_value (by simp) ?_ (hn _ _ _ hk hs rfl)
        have := hx w0 mu w hs
        rw [show (first.toList ++ vs ++ captured.toList).toArray = first ++ vs.toArray ++ captured by rw [← Array.toList_inj]; simp] at this
        rw [Array.append_assoc] at this
        simp [execOp, resolve, opd_eval ht hf, Deferred.ofValue, hargs, invoke, this]
       obtain ⟨hent, hc⟩ := h
       refine ⟨fun _ _ => trivial, ?_⟩
       rw [Oper.semAt_eq _ _ _ (by simp)]
       have hrun : (execOp a.eval { dst := dst, op := .call { callee := .value f, args := args, argTypes := argTypes }, type := type, pos := pos, after := after, guard := guard }).run P w = .ok (.enter g (first ++ vs.toArray ++ captured)) w := by
        simp [execOp, resolve, opd_eval ht hf, Deferred.ofValue, hargs, invoke, hent]
       rw [hrun]
       refine ⟨fun hh => by simp [Fr] at hh, ?_⟩
       have := hc w0 mu w hs
       rw [show (first.toList ++ vs ++ captured.toList).toArray = first ++ vs.toArray ++ captured by rw [← Array.toList_inj]; simp] at this
       refine CallsIn.mono (F := Fr r) (n := 0) this ?_
       rintro e w' ⟨v, H', rfl, hk, hs', hm⟩
       exact hn v H' w' hk hs' hm
     · rename_i l first captured
       obtain ⟨fn, tmps, assign, body, hy, hR⟩ := h w0 mu w hs
       refine ⟨fun _ _ => trivial, ?_⟩
       rw [Oper.semAt_eq _ _ _ (by simp)]
       have hrun : (execOp a.eval { dst := dst, op := .call { callee := .value f, args := args, argTypes := argTypes }, type := type, pos := pos, after := after, guard := guard }).run P w = .ok (.round l fn tmps assign body) w := by
        rw [show (first.toList ++ vs).toArray = first ++ vs.toArray by rw [← Array.toList_inj]; simp] at hy
        simp [execOp, resolve, opd_eval ht hf, Deferred.ofValue, hargs, invoke, hy]
       rw [hrun]
       refine ⟨fun hh => by simp [Fr] at hh, ?_⟩
       refine RoundIn.mono (F := Fr r) (n := 0) hR ?_
       rintro e w' ⟨v, H', rfl, hk, hs', hm⟩
       exact hn v H' w' hk hs' hm
     · exact h.elim
   · split at h
     case h_2 => exact h.elim
     rename_i _ _ _ s x st xt h0 h1
     split at h
     · rename_i kk hkk
       have hx : ∃ kk, P.underlying xt = some (.int kk) := by
        unfold intI at hkk
        split at hkk
        · exact ⟨_, by assumption⟩
        · cases hkk
       obtain ⟨kk, hx⟩ := hx
       obtain ⟨v, H', w', r1, r2, r3, r4⟩ := hs.grow (P := P) (ty := type) h argTypes h0 h1 hx
       refine wp_value (by simp) ?_ (hn _ _ _ r2 r3 r4)
       simp [execOp, resolve, hargs, invoke, builtin, r1]
     obtain ⟨v, H', w', r1, r2, r3, r4⟩ := hs.append (P := P) (ty := type) h argTypes h0 h1
     refine wp_value (by simp) ?_ (hn _ _ _ r2 r3 r4)
     simp [execOp, resolve, hargs, invoke, builtin, r1]
   · split at h
     case h_2 => exact h.elim
     rename_i _ _ d x dt h0
     obtain ⟨v, H', w', r1, r2, r3, r4⟩ := hs.copy (P := P) (ty := type) h argTypes h0
     refine wp_value (by simp) ?_ (hn _ _ _ r2 r3 r4)
     simp [execOp, resolve, hargs, invoke, builtin, r1]
   · split at h
     case h_2 => exact h.elim
     rename_i _ _ x st h0
     obtain ⟨v, H', w', r1, r2, r3, r4⟩ := hs.clear (P := P) (ty := type) h argTypes h0
     refine wp_value (by simp) ?_ (hn _ _ _ r2 r3 r4)
     simp [execOp, resolve, hargs, invoke, builtin, r1]
   · split at h
     case h_2 => exact h.elim
     rename_i _ _ x t h0
     split at h
     case h_2 => exact h.elim
     rename_i _ v hv
     refine wp_value (by simp) ?_ (hn _ _ _ h hs rfl)
     simp [execOp, resolve, hargs, invoke, builtin, run_lenV (w := w) argTypes hv h0 type]
   · split at h
     case h_2 => exact h.elim
     rename_i _ _ x t h0
     split at h
     case h_2 => exact h.elim
     rename_i _ v hv
     refine wp_value (by simp) ?_ (hn _ _ _ h hs rfl)
     simp [execOp, resolve, hargs, invoke, builtin, run_capV (w := w) argTypes hv h0 type]
   · split at h
     case h_2 => exact h.elim
     rename_i _ v hv
     refine wp_value (by simp) ?_ (hn _ _ _ h hs rfl)
     simp [execOp, resolve, hargs, invoke, builtin, run_minL (P := P) (w := w) argTypes type hv]
   · split at h
     case h_2 => exact h.elim
     rename_i _ v hv
     refine wp_value (by simp) ?_ (hn _ _ _ h hs rfl)
     simp [execOp, resolve, hargs, invoke, builtin, run_maxL (P := P) (w := w) argTypes type hv]
   · split at h
     case h_2 => exact h.elim
     rename_i _ _ x
     split at h
     case h_2 => exact h.elim
     rename_i _ v hv
     refine wp_value (by simp) ?_ (hn _ _ _ h hs rfl)
     simp [execOp, resolve, hargs, invoke, builtin, run_dataV (P := P) (w := w) argTypes type hv]
   · split at h
     case h_2 => exact h.elim
     rename_i _ _ _ p m st it hat
     split at h
     case h_2 => exact h.elim
     rename_i _ s H' hv
     obtain ⟨w', r1, r2, r3⟩ := hs.us (it := it) (ty := type) hv
     have hat' : argTypes = #[st, it] := by rw [← Array.toList_inj]; exact hat
     refine wp_value (by simp) ?_ (hn _ _ _ h r2 r3)
     simp [execOp, resolve, hargs, invoke, builtin, hat', r1]
   · exact h.elim
 · split at h
   case h_2 => exact h.elim
   rename_i x _ v hx
   exact quiet rfl (by simpa [evQ] using hx) h
 · split at h
   case h_2 => exact h.elim
   rename_i x _ v hx
   exact quiet rfl (by simpa [evQ] using hx) h
 all_goals first
  | exact False.elim h
  | (have h' := @evP_of _ _ _ _ _ h; obtain ⟨v, h1, h2⟩ := h'; exact quiet rfl h1 h2)
  | (refine wp_value (by simp) (run_seman (v := .map (some w.heap.size)) (w' := w.alloc (.map #[] 0)) (by simp [Instr.makeMap])) (hn _ _ _ (h w.heap.size hs.fresh_size) (hs.alloc rfl (by
    unfold Ent.holds
    exact ⟨rfl, by simpa using World.alloc_heap_new w (.map #[] 0), rfl⟩)) (by simp [marksOf])))
  | (split at h
     case h_2 => exact h.elim
     rename_i _ _ m k hm hk
     obtain ⟨v, h1, h2⟩ := hs.lookup (P := P) h
     refine wp_value (by simp) ?_ (hn _ _ _ h2 hs rfl)
     simp [execOp, opd_eval ht hm, opd_eval ht hk, h1])
  | (split at h
     case h_2 => exact h.elim
     rename_i _ _ _ m k v hm hk hv
     obtain ⟨H', w', h1, h2, h3, h4⟩ := hs.mapUpd (P := P) h
     refine wp_skip' (by simp) ?_ (hn _ _ _ h2 h3 h4)
     simp [execOp, opd_eval ht hm, opd_eval ht hk, opd_eval ht hv, h1])
end
def gd (ops : List Oper) (T : Tm) (g : Option (Nat × Bool)) (A B : Prop) : Prop :=
 match g with
 | none => A
 | some (j, want) => match ops[j]? with
   | some oj => match oj.dst with
     | some t => match getT T t with
       | some (.bool b) => (b = want → A) ∧ (b = !want → B)
       | some (.tuple _) => B
       | _ => False
     | none => False
   | none => False
def evOps (P : Program) (G : Gam) (n : Nat) (ops : List Oper) (K : Tm → Hp → Prop) : List Oper → Tm → Hp → Prop
 | [], T, H => K T H
 | o :: r, T, H => gd ops T o.guard (evOp P G T H o.op fun v H' => evOps P G n ops K r (putT n T o.dst v) H') (evOps P G n ops K r (putT n T o.dst undef) H)
theorem gd_ok {ops : Array Oper} {n : Nat} {T : Tm} {a : Act} (ht : TRel n T a) {o : Oper} {A B : Prop} (h : gd ops.toList T o.guard A B) :
  (Region.wanted o (yielded ops a.tmps) = true ∧ A) ∨ (Region.wanted o (yielded ops a.tmps) = false ∧ B) := by
 unfold gd at h
 unfold Region.wanted
 split at h
 · exact .inl ⟨by simp [*], h⟩
 · rename_i j want hg
   rw [hg]
   dsimp only
   split at h
   case h_2 => exact h.elim
   rename_i oj hj
   have hj' : ops[j]? = some oj := by simpa using hj
   split at h
   case h_2 => exact h.elim
   rename_i t hd
   have hy : ∀ v, getT T t = some v → yielded ops a.tmps j = (match v with | .bool b => some b | _ => none) := by
    intro v hv
    have := ht.get t v hv
    simp only [yielded, hj', Option.bind_some, hd, this]
    cases v <;> rfl
   split at h
   · rename_i b hb
     rw [hy _ hb]
     dsimp only
     by_cases hbw : b = want
     · exact .inl ⟨by simp [hbw], h.1 hbw⟩
     · exact .inr ⟨by simp [hbw], h.2 (by cases b <;> cases want <;> simp_all)⟩
   · rename_i vs hb
     rw [hy _ hb]
     exact .inr ⟨by simp, h⟩
   · exact h.elim
section
variable {P : Program} {r : Option Nat} {n : Nat} {w0 : World} {mu : Nat → Prop}
theorem evOps_ok {G : Gam} (hG : GamOk P G) {ops : Array Oper} {Q : Exit → Act → World → Prop} {K : Tm → Hp → Prop} {M : List Nat} {D : List Deferred}
  (hQ : ∀ T H a w, K T H → TRel n T a → Sat w0 mu H w → marksOf H = M → a.defers = D → Q .normal a w) :
  ∀ (l : List Oper) (i : Nat), ops.toList.drop i = l → ∀ (T : Tm) (H : Hp) (a : Act) (w : World), TRel n T a → Sat w0 mu H w → marksOf H = M → a.defers = D →
   evOps P G n ops.toList K l T H → wpOpsIn (Fr r) 0 P ops Q (List.range' i l.length) a w
 | [], i, _, T, H, a, w, ht, hs, hm, hd, h => hQ T H a w h ht hs hm hd
 | o :: l, i, hl, T, H, a, w, ht, hs, hm, hd, h => by
   have hi : i < ops.toList.length := by
    rcases Nat.lt_or_ge i ops.toList.length with h1 | h1
    · exact h1
    · rw [List.drop_eq_nil_of_le h1] at hl; cases hl
   rw [List.drop_eq_getElem_cons hi] at hl
   injection hl with ho hl'
   have ho' : ops[i]? = some o := by
    rw [← ho]; simp
   rw [List.length_cons, List.range'_succ]
   simp only [wpOpsIn, ho']
   have hput : ∀ (v : Value), (a.put o.dst v).defers = a.defers := by
    intro v; cases o.dst <;> rfl
   rcases gd_ok ht h with ⟨hw, hA⟩ | ⟨hw, hB⟩
   · rw [if_pos hw]
     refine evOp_ok hG ht hs hA ?_
     intro v H' w' hk hs' hm'
     exact evOps_ok hG hQ l (i + 1) hl' _ H' _ w' (ht.put o.dst v) hs' (hm'.trans hm) ((hput v).trans hd) hk
   · rw [if_neg (by simp [hw])]
     exact ⟨fun _ _ => trivial, evOps_ok hG hQ l (i + 1) hl' _ H _ w (ht.put o.dst undef) hs hm ((hput _).trans hd) hB⟩
def RoundOk (r : Option Nat) (w0 : World) (mu : Nat → Prop) : Prop := ∀ l, r = some l → l < w0.heap.size ∧ ¬ mu l ∧ ∃ rec, w0.heap[l]? = some (.loop rec)
theorem RoundOk.none_ (w0 : World) (mu : Nat → Prop) : RoundOk none w0 mu := fun _ h => by cases h
def WpV (P : Program) (r : Option Nat) (n : Nat) (c : Code) (K : Exit → Tm → Hp → Prop) (T : Tm) (H : Hp) : Prop :=
 ∀ (w0 : World) (mu : Nat → Prop) (a : Act) (w : World), RoundOk r w0 mu → TRel n T a → Sat w0 mu H w → a.defers = defersOf H →
  c.wpIn (Fr r) 0 P (fun e a w => ∃ T H, K e T H ∧ TRel n T a ∧ Sat w0 mu H w ∧ a.defers = defersOf H) a w
def thenK (k : Tm → Hp → Prop) (K : Exit → Tm → Hp → Prop) : Exit → Tm → Hp → Prop
 | .normal, T, H => k T H
 | e, T, H => K e T H
def blockK (id : Nat) (K : Exit → Tm → Hp → Prop) : Exit → Tm → Hp → Prop
 | .exit id', T, H => if id' = id then K .normal T H else K (.exit id') T H
 | e, T, H => K e T H
end
end Go.Ev
namespace Go.Ev
open Go.RowKit
def dropM : Hp → Hp
 | [] => []
 | e :: r => match e.kind with
   | .obj (.deferred (some [])) => dropM r
   | _ => e :: dropM r
theorem marks_dropM : ∀ (H : Hp), marksOf (dropM H) = []
 | [] => rfl
 | e :: r => by
   simp only [dropM]
   split
   · exact marks_dropM r
   · rename_i h1
     simp only [marksOf]
     exact marks_dropM r
theorem dropM_eq : ∀ {H : Hp}, marksOf H = [] → dropM H = H
 | [], _ => rfl
 | e :: r, h => by
   simp only [marksOf] at h
   simp only [dropM]
   split at h
   · cases h
   · rw [dropM_eq h]
     split
     · exfalso; simp_all
     · rfl
theorem marks_sub : ∀ {H H' : Hp}, H'.Sublist H → marksOf H = [] → marksOf H' = [] := by
 intro H H' h
 induction h with
 | slnil => exact id
 | cons a _ ih =>
   intro hm; simp only [marksOf] at hm
   split at hm
   · cases hm
   · exact ih hm
 | cons_cons a _ ih =>
   intro hm; simp only [marksOf] at hm ⊢
   split at hm
   · cases hm
   · exact ih hm
theorem first_mark {m : Nat} {ms : List Nat} : ∀ {H : Hp}, (H.Pairwise fun e f => (e.wr ∨ f.wr) → e.blk ≠ f.blk) → marksOf H = m :: ms →
  ∃ e, findE H m = some e ∧ e.kind = .obj (.deferred (some [])) ∧ marksOf (remE H m) = ms ∧ dropM (remE H m) = dropM H
 | [], _, h => by simp [marksOf] at h
 | x :: r, hp, h => by
   obtain ⟨h1, h2⟩ := List.pairwise_cons.1 hp
   simp only [marksOf] at h
   split at h
   · rename_i hk
     injection h with hm hms
     subst hm
     exact ⟨x, by simp [findE], hk, by simp [remE, hms], by simp [remE, dropM, hk]⟩
   · rename_i hk
     obtain ⟨e, he, hek, hm1, hd1⟩ := first_mark h2 h
     obtain ⟨hmem, hb⟩ := findE_mem he
     have hne : ¬ m = x.blk := by
      rw [← hb]
      exact fun hh => h1 e hmem (.inr (by unfold Ent.wr; rw [hek]; trivial)) hh.symm
     refine ⟨e, by simp [findE, hne, he], hek, ?_, ?_⟩
     · simp only [remE, if_neg hne, marksOf]
       exact hm1
     · simp only [remE, if_neg hne, dropM]
       rw [hd1]
theorem Sat.turn_drop {w0 w w' : World} {mu : Nat → Prop} {H H' : Hp} {b : Nat} (h : Sat w0 mu H w) (ht : Turn b w w') (hb : mu b ∨ w0.heap.size ≤ b) (hs : H'.Sublist H) (hne : ∀ x ∈ H', x.blk ≠ b) : Sat w0 mu H' w' :=
 ⟨ht.os.trans h.os, ht.tape.trans h.tape, ht.output.trans h.output, Nat.le_trans h.size ht.size, h.old_turn ht hb,
  fun e he => Ent.holds_of (h.ents e (hs.subset he)) (ht.same _ (Ent.lt (h.ents e (hs.subset he))) (hne e he)), fun e he => h.own e (hs.subset he), h.apart.sublist hs⟩
theorem leaves_marks {P : Program} {fn : Func} {tmps : Array Value} {R : Ending → World → Prop} {w0 : World} {mu : Nat → Prop} : ∀ (k : Nat) (H : Hp) (w : World), (marksOf H).length = k → Sat w0 mu H w →
  (∀ w', Sat w0 mu (dropM H) w' → ∃ v, (results fn tmps).run P w' = .ok v w' ∧ R (.returned v) w') → LeavesInM (Fr none) 0 P fn tmps R (defersOf H) .returning w
 | 0, H, w, hk, hs, h => by
   have hm : marksOf H = [] := List.eq_nil_of_length_eq_zero hk
   rw [dropM_eq hm] at h
   simp only [defersOf, hm, List.map_nil]
   obtain ⟨v, h1, h2⟩ := h w hs
   exact ⟨v, h1, h2⟩
 | k + 1, H, w, hk, hs, h => by
   cases hm : marksOf H with
   | nil => rw [hm] at hk; cases hk
   | cons m ms =>
     obtain ⟨e, he, hek, hm1, hd1⟩ := first_mark hs.apart hm
     obtain ⟨hmem, hb⟩ := findE_mem he
     have hh := hs.ents e hmem
     unfold Ent.holds at hh
     rw [hek] at hh
     dsimp only at hh
     rw [hb] at hh
     have hw : e.wr := by unfold Ent.wr; rw [hek]; trivial
     have ht : Turn m w (w.putObj m (.deferred none)) := ⟨rfl, rfl, rfl, by simp [World.putObj], fun j hj hne => by simp [World.putObj, Array.getElem?_setIfInBounds_ne (Ne.symm hne)]⟩
     simp only [defersOf, hm, List.map_cons]
     refine ⟨by simp, .inl ⟨m, _, rfl, run_takeDeferred hh.2.1, ?_⟩⟩
     have hs' : Sat w0 mu (remE H m) (w.putObj m (.deferred none)) :=
      hs.turn_drop ht (by rw [← hb]; exact hs.own e hmem hw) (remE_sub H m) (remE_ne hw hs.apart he)
     have := leaves_marks k (remE H m) _ (by rw [hm1]; rw [hm] at hk; simpa using hk) hs' (by rw [hd1]; exact h)
     simpa [defersOf, hm1] using this
def resV (P : Program) (T : Tm) (H : Hp) : ResultVar → Option Value
 | .tmp t => getT T t
 | .cell a t => (getT T a).bind fun p => loadV P H t p
def resOf : List Value → Value
 | [v] => v
 | vs => .tuple vs.toArray
def retK (P : Program) (rs : List ResultVar) (K : Value → Hp → Prop) : Exit → Tm → Hp → Prop
 | .normal, T, H => match optL (rs.map (resV P T (dropM H))) with
   | some vs => ∃ H', H'.Sublist (dropM H) ∧ K (resOf vs) H'
   | none => False
 | .ret, T, H => match optL (rs.map (resV P T (dropM H))) with
   | some vs => ∃ H', H'.Sublist (dropM H) ∧ K (resOf vs) H'
   | none => False
 | _, _, _ => False
theorem run_results {P : Program} {fn : Func} {n : Nat} {T : Tm} {H : Hp} {a : Act} {w0 w : World} {mu : Nat → Prop} (ht : TRel n T a) (hs : Sat w0 mu H w) {vs : List Value} (h : optL (fn.results.toList.map (resV P T H)) = some vs) :
  (results fn a.tmps).run P w = .ok (resOf vs) w := by
 have key : ∀ (l : List ResultVar) (vs : List Value), optL (l.map (resV P T H)) = some vs → (l.mapM (fun | .tmp t => pure (a.tmps.getD t undef) | .cell p t => do loadVar t (← asAddr (a.tmps.getD p undef)) : ResultVar → Sem Value)).run P w = .ok vs w := by
  intro l
  induction l with
  | nil => intro vs h; simp only [List.map_nil, optL, Option.some.injEq] at h; subst h; simp
  | cons x l ih =>
    intro vs h
    simp only [List.map_cons, optL] at h
    cases hx : resV P T H x with
    | none => simp [hx] at h
    | some v =>
      simp only [hx, Option.bind_some, Option.map_eq_some_iff] at h
      obtain ⟨r, hr, rfl⟩ := h
      have h2 := ih r hr
      rw [List.mapM_cons]
      cases x with
      | tmp t =>
        have : a.tmps.getD t undef = v := by simp [Array.getD_eq_getD_getElem?, ht.get t v hx]
        simp only [Sem.run_bind, Sem.run_pure, Result.andThen_ok, this, h2]
      | cell p t =>
        simp only [resV, Option.bind_eq_some_iff] at hx
        obtain ⟨pv, hp, hl⟩ := hx
        have hpv : a.tmps.getD p undef = pv := by simp [Array.getD_eq_getD_getElem?, ht.get p pv hp]
        have hld := run_loadV hs hl
        have : ∃ ad, pv = .pointer (some ad) := by
         unfold loadV at hl
         split at hl
         · exact ⟨_, rfl⟩
         · cases hl
        obtain ⟨ad, rfl⟩ := this
        simp only [Instr.loadAt, Instr.sureAddr, Sem.run_bind, Sem.run_pure, Result.andThen_ok] at hld
        have hc : (do loadVar t (← asAddr (a.tmps.getD p undef)) : Sem Value).run P w = .ok v w := by simp [hpv, asAddr, hld]
        rw [Sem.run_bind]
        show Result.andThen (Sem.run P (do loadVar t (← asAddr (a.tmps.getD p undef))) w) _ = _
        rw [hc, Result.andThen_ok, Sem.run_bind, h2]
        rfl
 unfold results
 rw [Sem.run_bind, Array.mapM_eq_mapM_toList, Sem.run_map]
 have := key fn.results.toList vs h
 erw [this]
 simp only [Result.andThen_ok, Sem.run_pure]
 congr 1
 match vs with
 | [] => rfl
 | [v] => rfl
 | v :: v' :: l => simp [resOf]
def initT (k : Nat) : List Value → Tm
 | [] => []
 | v :: r => (k, v) :: initT (k + 1) r
theorem getT_initT : ∀ (vs : List Value) (k i : Nat) (v : Value), getT (initT k vs) i = some v → k ≤ i ∧ vs[i - k]? = some v
 | [], k, i, v, h => by simp [initT, getT] at h
 | x :: r, k, i, v, h => by
   simp only [initT, getT] at h
   by_cases hik : i = k
   · rw [if_pos hik] at h; cases h; subst hik; simp
   · rw [if_neg hik] at h
     obtain ⟨h1, h2⟩ := getT_initT r (k + 1) i v h
     refine ⟨by omega, ?_⟩
     rw [show i - k = (i - (k + 1)) + 1 by omega]
     simpa using h2
def freshN : Hp → Hp → Prop
 | [], _ => True
 | e :: r, H => fresh e.blk H ∧ freshN r H
def allWr : Hp → Prop
 | [] => True
 | e :: r => e.wr ∧ allWr r
theorem allWr_mem : ∀ {N : Hp}, allWr N → ∀ e ∈ N, e.wr
 | [], _, e, he => by cases he
 | x :: r, h, e, he => by
   rcases List.mem_cons.1 he with rfl | he
   · exact h.1
   · exact allWr_mem h.2 e he
def derE (H : Hp) : Hp → Prop
 | [] => True
 | e :: r => (e.kind = .ro ∧ cellsAt H e.blk e.off e.cells.length = some e.cells) ∧ derE H r
theorem derE_mem {H : Hp} : ∀ {L : Hp}, derE H L → ∀ e ∈ L, e.kind = .ro ∧ cellsAt H e.blk e.off e.cells.length = some e.cells
 | [], _, e, he => by cases he
 | x :: r, h, e, he => by
   rcases List.mem_cons.1 he with rfl | he
   · exact h.1
   · exact derE_mem h.2 e he
theorem marks_append : ∀ (A B : Hp), marksOf (A ++ B) = marksOf A ++ marksOf B
 | [], B => rfl
 | e :: r, B => by
   simp only [List.cons_append, marksOf]
   split
   · rw [marks_append r B]; rfl
   · exact marks_append r B
theorem freshN_of {H : Hp} : ∀ {N : Hp}, (∀ e ∈ N, ∀ x ∈ H, x.blk ≠ e.blk) → freshN N H
 | [], _ => trivial
 | e :: r, h => ⟨fresh_of (h e (by simp)), freshN_of fun e he => h e (by simp [he])⟩
theorem CallsV.use {P : Program} {g : FuncId} {args : List Value} {Hf H : Hp} {K K' : Value → Hp → Prop} (hc : CallsV P g args Hf K) (hd : derE H Hf)
  (hk : ∀ v N, K v N → allWr N ∧ marksOf N = [] ∧ (freshN N H → K' v (N ++ H))) : CallsV P g args H K' := by
 refine ⟨hc.1, fun w0 mu w hs => ?_⟩
 have hder := derE_mem hd
 have hro : ∀ e ∈ Hf, ¬ e.wr := fun e he hw => by unfold Ent.wr at hw; rw [(hder e he).1] at hw; exact hw
 have hmf : marksOf Hf = [] := by
  have : ∀ L : Hp, (∀ e ∈ L, e.kind = .ro) → marksOf L = [] := by
   intro L
   induction L with
   | nil => intro _; rfl
   | cons x r ih => intro h; simp only [marksOf, h x (by simp)]; exact ih fun e he => h e (by simp [he])
  exact this Hf fun e he => (hder e he).1
 have hsf : Sat w (fun _ => False) Hf w := by
  refine ⟨rfl, rfl, rfl, Nat.le_refl _, fun _ _ _ => rfl, fun e he => ?_, fun e he hw => absurd hw (hro e he), ?_⟩
  · obtain ⟨h1, h2⟩ := hder e he
    unfold Ent.holds
    rw [h1]
    dsimp only
    refine ⟨?_, (hs.cellsAt h2).2⟩
    unfold cellsAt at h2
    split at h2
    · rename_i e' he'
      obtain ⟨hm, hb⟩ := findE_mem he'
      rw [← hb]; exact Ent.lt (hs.ents e' hm)
    · cases h2
  · exact List.pairwise_iff_forall_sublist.2 fun {a b} hab => by
     intro hw
     rcases hw with hw | hw
     · exact absurd hw (hro a (hab.subset (by simp)))
     · exact absurd hw (hro b (hab.subset (by simp)))
 refine (hc.2 w (fun _ => False) w hsf).mono ?_
 rintro e w' ⟨v, N, rfl, hK, hsN, hmN⟩
 obtain ⟨hw, hmN0, hk'⟩ := hk v N hK
 have hge : ∀ e ∈ N, w.heap.size ≤ e.blk := fun e he => (hsN.own e he (allWr_mem hw e he)).resolve_left id
 have hne : ∀ e ∈ N, ∀ x ∈ H, x.blk ≠ e.blk := fun e he x hx => by have := hge e he; have := Ent.lt (hs.ents x hx); omega
 refine ⟨v, N ++ H, rfl, hk' (freshN_of hne), ⟨hsN.os.trans hs.os, hsN.tape.trans hs.tape, hsN.output.trans hs.output, Nat.le_trans hs.size hsN.size, ?_, ?_, ?_, ?_⟩, ?_⟩
 · intro b hb hm
   rw [hsN.old b (Nat.lt_of_lt_of_le hb hs.size) id]
   exact hs.old b hb hm
 · intro x hx
   rcases List.mem_append.1 hx with hx | hx
   · exact hsN.ents x hx
   · exact Ent.holds_of (hs.ents x hx) (hsN.old _ (Ent.lt (hs.ents x hx)) id)
 · intro x hx hxw
   rcases List.mem_append.1 hx with hx | hx
   · exact .inr (Nat.le_trans hs.size (hge x hx))
   · exact hs.own x hx hxw
 · refine List.pairwise_append.2 ⟨hsN.apart, hs.apart, fun x hx y hy _ => (hne x hx y hy).symm⟩
 · rw [marks_append, hmN0]; rfl
theorem CallsV.pure {P : Program} {g : FuncId} {args : List Value} {Hf H : Hp} {v : Value} {K' : Value → Hp → Prop} (hc : CallsV P g args Hf (Ret0 v)) (hd : derE H Hf) (hk : K' v H) : CallsV P g args H K' :=
 hc.use hd (by rintro u N ⟨rfl, rfl⟩; exact ⟨trivial, rfl, fun _ => hk⟩)
theorem ret0_ex (v u : Value) (H : Hp) : (∃ H', List.Sublist H' H ∧ Ret0 v u H') = (u = v) := by
 apply propext
 constructor
 · rintro ⟨H', _, h, _⟩; exact h
 · rintro rfl; exact ⟨[], List.nil_sublist _, rfl, rfl⟩
def subT (T : Tm) : Tm → Prop
 | [] => True
 | (k, v) :: r => getT T k = some v ∧ subT T r
def subH : Hp → Hp → Prop
 | _, [] => True
 | H, e :: r => findE H e.blk = some e ∧ subH (remE H e.blk) r
theorem subT_get {T : Tm} : ∀ {T' : Tm}, subT T T' → ∀ k v, getT T' k = some v → getT T k = some v
 | [], _, k, v, h => by simp [getT] at h
 | (j, u) :: r, hs, k, v, h => by
   simp only [getT] at h
   by_cases hk : k = j
   · rw [if_pos hk] at h; cases h; subst hk; exact hs.1
   · rw [if_neg hk] at h; exact subT_get hs.2 k v h
theorem TRel.sub {n : Nat} {T T' : Tm} {a : Act} (h : TRel n T a) (hs : subT T T') : TRel n T' a :=
 ⟨h.size, fun k v hk => h.get k v (subT_get hs k v hk)⟩
theorem Sat.sub {w0 w : World} {mu : Nat → Prop} : ∀ {H' H : Hp}, Sat w0 mu H w → subH H H' → Sat w0 mu H' w
 | [], H, h, _ => h.weak (List.nil_sublist H)
 | e :: r, H, h, hs => by
   obtain ⟨h1, h2⟩ := hs
   obtain ⟨hm, _⟩ := findE_mem h1
   have hr := Sat.sub (h.weak (remE_sub H e.blk)) h2
   have hmem : ∀ (L : Hp) {M : Hp}, subH M L → ∀ x ∈ L, x ∈ M := by
    intro L
    induction L with
    | nil => intro M _ x hx; cases hx
    | cons y L ih =>
      intro M hM x hx
      rcases List.mem_cons.1 hx with rfl | hx
      · exact (findE_mem hM.1).1
      · exact (remE_sub M _).subset (ih hM.2 x hx)
   refine ⟨h.os, h.tape, h.output, h.size, h.old, ?_, ?_, List.pairwise_cons.2 ⟨fun x hx hw => ?_, hr.apart⟩⟩
   · intro x hx
     rcases List.mem_cons.1 hx with rfl | hx
     · exact h.ents x hm
     · exact hr.ents x hx
   · intro x hx
     rcases List.mem_cons.1 hx with rfl | hx
     · exact h.own x hm
     · exact hr.own x hx
   · have hxm := hmem r h2 x hx
     have key : ∀ (L : Hp), (L.Pairwise fun e f => (e.wr ∨ f.wr) → e.blk ≠ f.blk) → findE L e.blk = some e → ∀ x ∈ remE L e.blk, (e.wr ∨ x.wr) → e.blk ≠ x.blk := by
      intro L
      induction L with
      | nil => intro _ hf; simp [findE] at hf
      | cons y L ih =>
        intro hp hf x hx hw
        obtain ⟨p1, p2⟩ := List.pairwise_cons.1 hp
        simp only [findE, remE] at hf hx
        by_cases hy : e.blk = y.blk
        · rw [if_pos hy] at hf hx
          cases hf
          exact p1 x hx hw
        · rw [if_neg hy] at hf hx
          rcases List.mem_cons.1 hx with rfl | hx
          · exact hy
          · exact ih p2 hf x hx hw
     exact key H h.apart h1 x hxm hw
def SubS (T : Tm) (H : Hp) (s : Tm × Hp) : Prop := subT T s.1 ∧ subH H s.2 ∧ marksOf s.2 = marksOf H
theorem WpV.sub {P : Program} {r : Option Nat} {n : Nat} {c : Code} {K : Exit → Tm → Hp → Prop} {T : Tm} {H : Hp} {s : Tm × Hp} (hs : SubS T H s) (h : WpV P r n c K s.1 s.2) : WpV P r n c K T H :=
 fun w0 mu a w hr ht hsat hd => h w0 mu a w hr (ht.sub hs.1) (hsat.sub hs.2.1) (by rw [hd, defersOf, defersOf, hs.2.2])
end Go.Ev
namespace Go.Ev
open Go.RowKit
structure Grew (w w' : World) : Prop where
 os : w'.os = w.os
 tape : w'.tape = w.tape
 output : w'.output = w.output
 size : w.heap.size ≤ w'.heap.size
 same : ∀ k, k < w.heap.size → w'.heap[k]? = w.heap[k]?
theorem Sat.grew {w0 w w' : World} {mu : Nat → Prop} {H : Hp} (h : Sat w0 mu H w) (g : Grew w w') : Sat w0 mu H w' :=
 ⟨g.os.trans h.os, g.tape.trans h.tape, g.output.trans h.output, Nat.le_trans h.size g.size, fun b hb hm => (g.same b (Nat.lt_of_lt_of_le hb h.size)).trans (h.old b hb hm),
  fun e he => Ent.holds_of (h.ents e he) (g.same _ (Ent.lt (h.ents e he))), h.own, h.apart⟩
def Closed (C : World → Prop) : Prop := ∀ w w', C w → Grew w w' → C w'
section
variable {P : Program} {r : Option Nat} {ops : Array Oper} {Qn : Act → World → Prop} {keep : Nat → Bool}
abbrev Q0 (Qn : Act → World → Prop) : Exit → Act → World → Prop := fun e a w => e = .normal ∧ Qn a w
def AnyC (P : Program) (r : Option Nat) (ops : Array Oper) (Qn : Act → World → Prop) (keep : Nat → Bool) : Nat → Array Bool → Act → (World → Prop) → Prop
 | 0, listed, a, C => ∀ w, C w → Region.ready .any ops listed = [] ∧ Qn a w
 | f + 1, listed, a, C => ∀ w, C w → (Region.ready .any ops listed = [] → Qn a w) ∧ ∀ i ∈ Region.ready .any ops listed,
   wpOpIn (Fr r) 0 P ops (Q0 Qn) i (fun a' w' => ∃ C', C' w' ∧ Closed C' ∧ (keep i = true → ∀ u, C' u → C u) ∧ AnyC P r ops Qn keep f (listed.setIfInBounds i true) a' C') a w
theorem AnyC.any : ∀ (f : Nat) (listed : Array Bool) (a : Act) (C : World → Prop), AnyC P r ops Qn keep f listed a C → ∀ w, C w → wpAnyIn (Fr r) 0 P .any ops (Q0 Qn) f listed a w
 | 0, _, _, _, h, w, hw => ⟨(h w hw).1, rfl, (h w hw).2⟩
 | f + 1, listed, a, C, h, w, hw => ⟨fun h0 => ⟨rfl, (h w hw).1 h0⟩, fun i hi => wpOpIn_mono (fun a' w' ⟨C', h1, _, _, h2⟩ => AnyC.any f _ a' C' h2 w' h1) ((h w hw).2 i hi)⟩
def YieldsC (P : Program) (ops : Array Oper) (C : World → Prop) (o : Oper) (v : Value) (a : Act) : Prop :=
 (Region.wanted o (yielded ops a.tmps) = true ∧ (∀ c, o.op ≠ .defer c) ∧ ∀ w, C w → (execOp a.eval o).run P w = .ok (.value v) w ∨
  ∃ f args, (execOp a.eval o).run P w = .ok (.enter f args) w ∧ CallsIn (Fr none) 0 P f args w fun e w' => e = .returned v ∧ Grew w w') ∨
 (Region.wanted o (yielded ops a.tmps) = false ∧ v = undef)
theorem Grew.refl (w : World) : Grew w w := ⟨rfl, rfl, rfl, Nat.le_refl _, fun _ _ => rfl⟩
theorem YieldsC.wpOp {i : Nat} {o : Oper} {v : Value} {a : Act} {C : World → Prop} (hi : ops[i]? = some o) (hy : YieldsC P ops C o v a) {K : Act → World → Prop} {w : World} (hw : C w) (h : ∀ w', Grew w w' → K (a.put o.dst v) w') :
  wpOpIn (Fr r) 0 P ops (Q0 Qn) i K a w := by
 unfold wpOpIn
 rw [hi]
 dsimp only
 rcases hy with ⟨hwt, hd, hv⟩ | ⟨hwt, rfl⟩
 · rw [if_pos hwt]
   refine ⟨fun _ _ => trivial, ?_⟩
   rw [Oper.semAt_eq _ _ _ hd]
   rcases hv w hw with hv | ⟨f, args, hv, hcall⟩
   · rw [hv]; exact h w (Grew.refl w)
   · rw [hv]
     refine ⟨fun hh => by simp [Fr] at hh, CallsIn.mono (F := Fr r) (n := 0) hcall ?_⟩
     rintro e w' ⟨rfl, hg⟩
     exact h w' hg
 · rw [if_neg (by simp [hwt])]
   exact ⟨fun _ _ => trivial, h w (Grew.refl w)⟩
theorem YieldsC.of_same {o : Oper} {v : Value} {a a' : Act} {C : World → Prop} (hy : YieldsC P ops C o v a) (he : execOp a'.eval o = execOp a.eval o) (hw : Region.wanted o (yielded ops a'.tmps) = Region.wanted o (yielded ops a.tmps)) : YieldsC P ops C o v a' := by
 unfold YieldsC at *
 rw [he, hw]
 exact hy
theorem wpOpIn_swap {j : Nat} {oi oj : Oper} {v : Value} {C : World → Prop} (hj : ops[j]? = some oj) (hap : oi.apart ops oj = true) (hsi : ∀ cs b, oi.op ≠ .select cs b) (hsj : ∀ cs b, oj.op ≠ .select cs b)
  {K : Act → World → Prop} {a : Act} {w : World} (hy : YieldsC P ops C oi v a) (h : wpOpIn (Fr r) 0 P ops (Q0 Qn) j K (a.put oi.dst v) w) :
  wpOpIn (Fr r) 0 P ops (Q0 Qn) j (fun a' w' => YieldsC P ops C oi v a' ∧ K (a'.put oi.dst v) w') a w := by
 obtain ⟨h1, h2, h3⟩ := Oper.apart_spec hap
 have keepp : ∀ (a : Act), YieldsC P ops C oi v a → ∀ u, YieldsC P ops C oi v (a.put oj.dst u) := fun a hy u =>
  hy.of_same (execOp_put oi hsi a oj.dst u h3) (wanted_put oi a oj.dst u h3)
 have keepD : ∀ d, YieldsC P ops C oi v { a with defers := d :: a.defers } := fun d => hy.of_same rfl rfl
 unfold wpOpIn at *
 rw [hj] at h ⊢
 dsimp only at h ⊢
 rw [wanted_put oj a oi.dst v h1] at h
 split
 · rename_i hw
   rw [if_pos hw] at h
   obtain ⟨_, h⟩ := h
   refine ⟨fun _ _ => trivial, ?_⟩
   have hsem : oj.semAt (Fr r).round (a.put oi.dst v).eval = oj.semAt (Fr r).round a.eval := by
    by_cases hd : ∃ c, oj.op = .defer c
    · obtain ⟨c, hc⟩ := hd
      unfold Oper.semAt
      rw [hc, execOp_put oj hsj a oi.dst v h1]
      cases (Fr r).round with
      | none => rfl
      | some l =>
        dsimp only
        have hres : resolve (a.put oi.dst v).eval c oj.type = resolve a.eval c oj.type := resolve_congr c oj.type fun x hx => Act.eval_put fun d hd hxd => h1 d hd (by
         subst hxd
         unfold Oper.looksAt
         rw [hc]
         refine List.mem_append_left _ (List.mem_filterMap.2 ⟨.tmp d, by simpa [Op.operands] using hx, rfl⟩))
        rw [hres]
    · have hd' : ∀ c, oj.op ≠ .defer c := fun c hc => hd ⟨c, hc⟩
      rw [Oper.semAt_eq _ _ _ hd', Oper.semAt_eq _ _ _ hd', execOp_put oj hsj a oi.dst v h1]
   rw [hsem] at h
   generalize (oj.semAt (Fr r).round a.eval).run P w = res at *
   cases res with
   | ok nx w' =>
     cases nx <;> simp only [Oper.uponIn] at h ⊢
     case value u => exact ⟨keepp a hy u, by rw [← Act.put_comm a v u h2]; exact h⟩
     case skip => exact ⟨keepp a hy _, by rw [← Act.put_comm a v undef h2]; exact h⟩
     case defer d =>
      refine ⟨keepp _ (keepD d) _, ?_⟩
      rw [← Act.put_comm _ v undef h2]
      have : ({ a with defers := d :: a.defers } : Act).put oi.dst v = { a.put oi.dst v with defers := d :: (a.put oi.dst v).defers } := by cases oi.dst <;> rfl
      rw [this]
      exact h
     case enter f args =>
      refine ⟨h.1, CallsIn.mono h.2 fun e w'' he => ?_⟩
      cases e with
      | returned u => exact ⟨keepp a hy u, by rw [← Act.put_comm a v u h2]; exact he⟩
      | panicked c => exact absurd he.1 (by simp)
      | outgrown => exact he
     case row row args => exact ⟨h.1, RowsIn.mono h.2 fun u w'' he => ⟨keepp a hy u, by rw [← Act.put_comm a v u h2]; exact he⟩⟩
     case round l f tmps assign body =>
      refine ⟨h.1, RoundIn.mono h.2 fun e w'' he => ?_⟩
      cases e with
      | returned u => exact ⟨keepp a hy u, by rw [← Act.put_comm a v u h2]; exact he⟩
      | panicked c => exact absurd he.1 (by simp)
      | outgrown => exact he
   | halt x w' =>
     cases x <;> simp only [Oper.uponIn] at h ⊢
     case panic u => exact absurd h.1 (by simp)
 · rename_i hw
   rw [if_neg hw] at h
   exact ⟨fun _ _ => trivial, keepp a hy _, by rw [← Act.put_comm a v undef h2]; exact h.2⟩
theorem AnyC.first {i : Nat} {oi : Oper} {v : Value} (D : Nat → Prop) (hD : ∀ j, D j → ∀ oj, ops[j]? = some oj → ∃ e ∈ oj.after, Region.binds .any e = true ∧ (e.on = i ∨ D e.on)) (hi : ops[i]? = some oi) (hsel : ∀ (j : Nat) (o : Oper) cs b, ops[j]? = some o → o.op ≠ .select cs b) : ∀ (f : Nat) (listed : Array Bool) (a : Act) (C Cy : World → Prop),
  (∀ j, D j → listed.getD j true = false) → (∀ j oj, ops[j]? = some oj → j ≠ i → ¬ D j → listed.getD j true = false → (∀ e ∈ oj.after, Region.binds .any e = true → e.on ≠ i) → oi.apart ops oj = true ∧ (keep j = true ∨ ∀ u, Cy u)) →
  i ∈ Region.ready .any ops listed → Closed C → (∀ u, C u → Cy u) → YieldsC P ops Cy oi v a → AnyC P r ops Qn keep f (listed.setIfInBounds i true) (a.put oi.dst v) C → AnyC P r ops Qn keep (f + 1) listed a C := by
 intro f
 induction f with
 | zero =>
   intro listed a C Cy _ _ hr hc hle hy H w hw
   refine ⟨fun h => (by rw [h] at hr; cases hr), fun j hj => ?_⟩
   by_cases hji : j = i
   · subst hji; exact hy.wpOp hi (hle w hw) fun w' hw' => ⟨C, hc w w' hw hw', hc, fun _ _ h => h, H⟩
   · have := ready_mono hj hji
     rw [(H w hw).1] at this
     cases this
 | succ f ih =>
   intro listed a C Cy hDun hfree hr hc hle hy H w hw
   refine ⟨fun h => (by rw [h] at hr; cases hr), fun j hj => ?_⟩
   by_cases hji : j = i
   · subst hji; exact hy.wpOp hi (hle w hw) fun w' hw' => ⟨C, hc w w' hw hw', hc, fun _ _ h => h, H⟩
   · have h1 := (H w hw).2 j (ready_mono hj hji)
     obtain ⟨hjun, oj, hoj, hall⟩ := mem_ready.1 hj
     have hnot : ∀ e ∈ oj.after, Region.binds .any e = true → e.on ≠ i := fun e he hb heq => by
      have h1 := hall e he hb
      have h0 := (mem_ready.1 hr).1
      rw [heq] at h1
      rcases Nat.lt_or_ge i listed.size with h' | h'
      · simp [h'] at h0 h1; rw [h0] at h1; cases h1
      · simp [Array.getElem?_eq_none h'] at h1
     have hnD : ¬ D j := fun hd => by
      obtain ⟨e, he, hb, hor⟩ := hD j hd oj hoj
      rcases hor with heq | hde
      · exact hnot e he hb heq
      · have h1 := hall e he hb
        have h0 := hDun _ hde
        rw [Array.getD_eq_getD_getElem?] at h0 h1
        cases hl : listed[e.on]? with
        | none => rw [hl] at h0; cases h0
        | some b => rw [hl] at h0 h1; cases b <;> simp at h0 h1
     have hDun' : ∀ k, D k → (listed.setIfInBounds j true).getD k true = false := fun k hk => by
      have hjk : j ≠ k := fun h => hnD (h ▸ hk)
      rw [getD_set_ne true hjk]
      exact hDun k hk
     obtain ⟨hap, hkp⟩ := hfree j oj hoj hji hnD hjun hnot
     have h2 := wpOpIn_swap hoj hap (fun cs b => hsel i oi cs b hi) (fun cs b => hsel j oj cs b hoj) hy h1
     have hfree' : ∀ k ok, ops[k]? = some ok → k ≠ i → ¬ D k → (listed.setIfInBounds j true).getD k true = false →
       (∀ e ∈ ok.after, Region.binds .any e = true → e.on ≠ i) → oi.apart ops ok = true ∧ (keep k = true ∨ ∀ u, Cy u) := fun k ok hk hki hkD hun hno => by
      refine hfree k ok hk hki hkD ?_ hno
      by_cases hjk : j = k
      · subst hjk; exact hjun
      · rw [getD_set_ne true hjk] at hun; exact hun
     refine wpOpIn_mono (fun a' w' h3 => ?_) h2
     obtain ⟨hy', C', hw', hc', hle', hA⟩ := h3
     refine ⟨C', hw', hc', hle', ih (listed.setIfInBounds j true) a' C' Cy hDun' hfree' (ready_mono hr (Ne.symm hji)) hc' (fun u hu => ?_) hy' ?_⟩
     · rcases hkp with hkp | hall
       · exact hle u (hle' hkp u hu)
       · exact hall u
     rw [Array.setIfInBounds_comm _ _ hji]
     exact hA
end
def QuietV (P : Program) (g : FuncId) (args : List Value) (H : Hp) (v : Value) : Prop := ∃ Hf, derE H Hf ∧ CallsV P g args Hf (Ret0 v)
def TakeV (P : Program) (g : FuncId) (args : List Value) (H : Hp) (K : Value → Prop) : Prop := ∃ v, QuietV P g args H v ∧ K v
theorem TakeV.mk {P : Program} {g : FuncId} {args : List Value} {H Hf : Hp} {K : Value → Prop} {v : Value} (hd : derE H Hf) (hc : CallsV P g args Hf (Ret0 v)) (hk : K v) : TakeV P g args H K := ⟨v, ⟨Hf, hd, hc⟩, hk⟩
def evTake (P : Program) (G : Gam) (T : Tm) (H : Hp) (op : Op) (K : Value → Prop) : Prop :=
 match op with
 | .call { callee := .value f, args, .. } => match opd T f, optL (args.toList.map (opd T)) with
   | some (.func (.func g) first captured), some vs => match G g (first.toList ++ vs ++ captured.toList) H with
     | some v => K v
     | none => TakeV P g (first.toList ++ vs ++ captured.toList) H K
   | _, _ => False
 | op => match evQ P T H op with
   | some v => K v
   | none => False
def evOpK (P : Program) (G : Gam) (T : Tm) (H : Hp) (op : Op) (m : Nat) (K : Value → Hp → Prop) : Prop :=
 match m with
 | 3 => evOp P G T H op K
 | _ => evOp P G T H op fun v H' => subH H' H ∧ K v H'
def evTwo (P : Program) (G : Gam) (n : Nat) (ops : List Oper) (K : Tm → Hp → Prop) (i m j k : Nat) (T : Tm) (H : Hp) : Prop :=
 match ops[i]?, ops[j]? with
 | some oi, some oj => evOpK P G T H oi.op m fun v H' => evOpK P G (putT n T oi.dst v) H' oj.op k fun u H'' => K (putT n (putT n T oi.dst v) oj.dst u) H''
 | _, _ => False
def evOne (P : Program) (G : Gam) (n : Nat) (ops : List Oper) (K : Tm → Hp → Prop) (i m : Nat) (T : Tm) (H : Hp) : Prop :=
 match ops[i]? with
 | some o => gd ops T o.guard
   (match m with
    | 0 => evTake P G T H o.op fun v => K (putT n T o.dst v) H
    | 1 => evOp P G T H o.op fun v H' => K (putT n T o.dst v) H'
    | _ => evOp P G T H o.op fun v H' => subH H' H ∧ K (putT n T o.dst v) H')
   (K (putT n T o.dst undef) H)
 | none => False
def evD (P : Program) (G : Gam) (n : Nat) (ops : List Oper) (K : Tm → Hp → Prop) : List (Nat × Nat) → Tm → Hp → Prop
 | [], T, H => K T H
 | (i, 0) :: s, T, H => evOne P G n ops (evD P G n ops K s) i 0 T H
 | (i, 1) :: s, T, H => evOne P G n ops (evD P G n ops K s) i 1 T H
 | (i, 2) :: s, T, H => evOne P G n ops (evD P G n ops K s) i 2 T H
 | (i, m + 3) :: (j, k) :: s, T, H => evTwo P G n ops (evD P G n ops K s) i (m + 3) j k T H ∧ evTwo P G n ops (evD P G n ops K s) j k i (m + 3) T H
 | (_, _ + 3) :: [], _, _ => False
def keepOf (s : List (Nat × Nat)) (i : Nat) : Bool := s.any fun x => x.1 == i && x.2 != 1 && x.2 != 3
def readsM : Op → Bool
 | .load .. => true
 | .call _ => true
 | _ => false
def depB (ops : Array Oper) (listed : Array Bool) (i : Nat) : Nat → Nat → Bool
 | 0, _ => false
 | f + 1, j => match ops[j]? with
   | some oj => oj.after.any fun e => Region.binds .any e && (e.on == i || (!listed.getD e.on true && depB ops listed i f e.on))
   | none => false
def chkOne (ops : Array Oper) (keep : Nat → Bool) (i m : Nat) (listed : Array Bool) : Bool :=
 match m with
  | 0 => (Region.ready .any ops listed).contains i && Region.free .any ops listed i && ((List.range ops.size).all fun j => !((ops[i]?).any fun o => readsM o.op) || j == i || listed.getD j true || keep j || (match ops[j]? with | some oj => oj.after.any (fun e => Region.binds .any e && e.on == i) | none => true) || depB ops listed i 6 j)
  | _ => Region.ready .any ops listed == [i]
def chkD (ops : Array Oper) (keep : Nat → Bool) : List (Nat × Nat) → Array Bool → Bool
 | [], listed => (Region.ready .any ops listed).isEmpty
 | (i, 0) :: s, listed => chkOne ops keep i 0 listed && chkD ops keep s (listed.setIfInBounds i true)
 | (i, 1) :: s, listed => chkOne ops keep i 1 listed && chkD ops keep s (listed.setIfInBounds i true)
 | (i, 2) :: s, listed => chkOne ops keep i 2 listed && chkD ops keep s (listed.setIfInBounds i true)
 | (i, _ + 3) :: (j, k) :: s, listed => (Region.ready .any ops listed).contains i && (Region.ready .any ops listed).all (fun x => x == i || x == j) && Region.ready .any ops (listed.setIfInBounds i true) == [j] && Region.ready .any ops (listed.setIfInBounds j true) == [i] && decide (3 ≤ k) && i != j &&
   ((ops[i]?).any fun o => o.guard.isNone) && ((ops[j]?).any fun o => o.guard.isNone) && chkD ops keep s ((listed.setIfInBounds i true).setIfInBounds j true)
 | (_, _ + 3) :: [], _ => false
def planOk (ops : Array Oper) (s : List (Nat × Nat)) : Bool := Region.noSelect ops && s.length == ops.size && chkD ops (keepOf s) s (Array.replicate ops.size false) && s.all fun x => !keepOf s x.1 || (x.2 != 1 && x.2 != 3)
theorem quiet_grew {P : Program} {g : FuncId} {args : List Value} {H : Hp} {v : Value} (hq : QuietV P g args H v) {w0 w : World} {mu : Nat → Prop} (hs : Sat w0 mu H w) :
  CallsIn (Fr none) 0 P g args.toArray w fun e w' => e = .returned v ∧ Grew w w' := by
 obtain ⟨Hf, hd, hc⟩ := hq
 have h2 : CallsV P g args H (fun u H' => u = v ∧ H' = H) := hc.pure hd ⟨rfl, rfl⟩
 have hsub : Sat w (fun _ => False) (H.map fun e => { e with kind := .ro }) w → True := fun _ => trivial
 clear hsub
 have hder := derE_mem hd
 have hro : ∀ e ∈ Hf, ¬ e.wr := fun e he hw => by unfold Ent.wr at hw; rw [(hder e he).1] at hw; exact hw
 have hsf : Sat w (fun _ => False) Hf w := by
  refine ⟨rfl, rfl, rfl, Nat.le_refl _, fun _ _ _ => rfl, fun e he => ?_, fun e he hw => absurd hw (hro e he), ?_⟩
  · obtain ⟨h1, h2⟩ := hder e he
    unfold Ent.holds
    rw [h1]
    dsimp only
    refine ⟨?_, (hs.cellsAt h2).2⟩
    unfold cellsAt at h2
    split at h2
    · rename_i e' he'
      obtain ⟨hm, hb⟩ := findE_mem he'
      rw [← hb]; exact Ent.lt (hs.ents e' hm)
    · cases h2
  · exact List.pairwise_iff_forall_sublist.2 fun {a b} hab => by
     intro hw
     rcases hw with hw | hw
     · exact absurd hw (hro a (hab.subset (by simp)))
     · exact absurd hw (hro b (hab.subset (by simp)))
 refine (hc.2 w (fun _ => False) w hsf).mono ?_
 rintro e w' ⟨u, N, rfl, ⟨rfl, rfl⟩, hsN, _⟩
 exact ⟨rfl, hsN.os, hsN.tape, hsN.output, hsN.size, fun k hk => hsN.old k hk id⟩
section
variable {P : Program} {r : Option Nat} {n : Nat} {w0 : World} {mu : Nat → Prop} {ops : Array Oper}
theorem evQ_reads {T : Tm} {H : Hp} {op : Op} {v : Value} (hr : readsM op = false) (h : evQ P T H op = some v) : evQ P T [] op = some v := by
 cases op <;> first | exact h | simp [readsM] at hr
theorem Sat.nil (w : World) : Sat w (fun _ => False) [] w := ⟨rfl, rfl, rfl, Nat.le_refl _, fun _ _ _ => rfl, (fun e he => by cases he), (fun e he => by cases he), List.Pairwise.nil⟩
theorem evTake_ok {G : Gam} (hG : GamOk P G) {T : Tm} {H : Hp} {a : Act} (ht : TRel n T a) {o : Oper} (hwt : Region.wanted o (yielded ops a.tmps) = true) {K : Value → Prop} (h : evTake P G T H o.op K) :
  ∃ v, YieldsC P ops (fun w => readsM o.op = true → Sat w0 mu H w) o v a ∧ K v := by
 obtain ⟨dst, op, type, pos, after, guard⟩ := o
 dsimp only at h
 unfold evTake at h
 split at h
 · rename_i f args argTypes
   split at h
   case h_2 => exact h.elim
   rename_i g first captured vs hf hvs
   have hargs : args.map a.eval = vs.toArray := by rw [← optL_eval ht hvs, ← Array.toList_inj]; simp
   have h' : (∃ v, QuietV P g (first.toList ++ vs ++ captured.toList) H v ∧ K v) ∨ ∃ v, ExtM P g (first.toList ++ vs ++ captured.toList) H v ∧ K v := by
    split at h
    · rename_i v hv
      rcases hG _ _ _ _ hv with hc | hx
      · exact .inl ⟨v, ⟨[], trivial, hc⟩, h⟩
      · exact .inr ⟨v, hx, h⟩
    · exact .inl h
   rcases h' with ⟨v, hq, hk⟩ | ⟨v, hx, hk⟩
   case inr =>
    refine ⟨v, .inl ⟨hwt, by simp, fun w hw => .inl ?_⟩, hk⟩
    have := hx w0 mu w (hw rfl)
    rw [show (first.toList ++ vs ++ captured.toList).toArray = first ++ vs.toArray ++ captured by rw [← Array.toList_inj]; simp] at this
    rw [Array.append_assoc] at this
    simp [execOp, resolve, opd_eval ht hf, Deferred.ofValue, hargs, invoke, this]
   refine ⟨v, .inl ⟨hwt, by simp, fun w hw => .inr ⟨g, first ++ vs.toArray ++ captured, ?_, ?_⟩⟩, hk⟩
   · have hent := hq.choose_spec.2.1
     simp [execOp, resolve, opd_eval ht hf, Deferred.ofValue, hargs, invoke, hent]
   · have := quiet_grew hq (hw rfl)
     rwa [show (first.toList ++ vs ++ captured.toList).toArray = first ++ vs.toArray ++ captured by rw [← Array.toList_inj]; simp] at this
 · split at h
   case h_2 => exact h.elim
   rename_i _ v hv
   refine ⟨v, .inl ⟨hwt, by intro c hc; dsimp only at hc; subst hc; simp [evQ] at hv, fun w hw => .inl ?_⟩, h⟩
   by_cases hr : readsM op = true
   · exact run_evQ ht (hw hr) hv
   · exact run_evQ ht (Sat.nil w) (evQ_reads (by simpa using hr) hv)
theorem evOpK_ok {G : Gam} (hG : GamOk P G) {Qn : Act → World → Prop} {T : Tm} {H : Hp} {a : Act} {w : World} {i m : Nat} {o : Oper} {K : Value → Hp → Prop} (ho : ops[i]? = some o) (hgn : o.guard = none) (ht : TRel n T a) (hs : Sat w0 mu H w) (h : evOpK P G T H o.op m K) :
  wpOpIn (Fr r) 0 P ops (Q0 Qn) i (fun a' w' => ∃ v H', a' = a.put o.dst v ∧ Sat w0 mu H' w' ∧ marksOf H' = marksOf H ∧ (m ≠ 3 → ∀ u, Sat w0 mu H' u → Sat w0 mu H u) ∧ K v H') a w := by
 have hw : Region.wanted o (yielded ops a.tmps) = true := by
  rcases gd_ok (ops := ops) (o := o) (A := True) (B := False) ht (by rw [hgn]; trivial) with ⟨h, _⟩ | ⟨_, h⟩
  · exact h
  · exact h.elim
 unfold wpOpIn
 rw [ho]
 dsimp only
 rw [if_pos hw]
 unfold evOpK at h
 split at h
 · exact evOp_ok hG ht hs h fun v H' w' hk hs' hm' => ⟨v, H', rfl, hs', hm', fun h => absurd rfl h, hk⟩
 · exact evOp_ok hG ht hs h fun v H' w' hk hs' hm' => ⟨v, H', rfl, hs', hm', fun _ u hu => hu.sub hk.1, hk.2⟩
theorem evTwo_ok {G : Gam} (hG : GamOk P G) {Qn : Act → World → Prop} {K : Tm → Hp → Prop} {keep : Nat → Bool} {T : Tm} {H : Hp} {a : Act} {w : World} {i m j k f : Nat} {oi oj : Oper} {listed : Array Bool} (hi : ops[i]? = some oi) (hj : ops[j]? = some oj) (hgi : oi.guard = none) (hgj : oj.guard = none)
  (hki : keep i = true → m ≠ 3) (hkj : keep j = true → k ≠ 3) (hr : Region.ready .any ops (listed.setIfInBounds i true) = [j])
  (ht : TRel n T a) (hs : Sat w0 mu H w) (h : evTwo P G n ops.toList K i m j k T H)
  (hrest : ∀ T' H' a', TRel n T' a' → marksOf H' = marksOf H → a'.defers = a.defers → K T' H' → AnyC P r ops Qn keep f ((listed.setIfInBounds i true).setIfInBounds j true) a' (fun w => Sat w0 mu H' w)) :
  wpOpIn (Fr r) 0 P ops (Q0 Qn) i (fun a' w' => ∃ C', C' w' ∧ Closed C' ∧ (keep i = true → ∀ u, C' u → Sat w0 mu H u) ∧ AnyC P r ops Qn keep (f + 1) (listed.setIfInBounds i true) a' C') a w := by
 have hclosed : ∀ H : Hp, Closed fun w => Sat w0 mu H w := fun H w w' hw hg => hw.grew hg
 have hput : ∀ (o : Oper) (a : Act) (v : Value), (a.put o.dst v).defers = a.defers := by
  intro o a v; cases o.dst <;> rfl
 unfold evTwo at h
 rw [show ops.toList[i]? = some oi by simpa using hi, show ops.toList[j]? = some oj by simpa using hj] at h
 dsimp only at h
 refine wpOpIn_mono ?_ (evOpK_ok (Qn := Qn) hG hi hgi ht hs h)
 rintro a' w' ⟨v, H', rfl, hs', hm', hk', h'⟩
 refine ⟨fun w => Sat w0 mu H' w, hs', hclosed H', fun hkk => hk' (hki hkk), ?_⟩
 intro w2 hs2
 rw [hr]
 refine ⟨fun h => (by cases h), fun x hx => ?_⟩
 obtain rfl : x = j := by simpa using hx
 refine wpOpIn_mono ?_ (evOpK_ok (Qn := Qn) hG hj hgj (ht.put oi.dst v) hs2 h')
 rintro a'' w'' ⟨u, H'', rfl, hs'', hm'', hk'', h''⟩
 exact ⟨fun w => Sat w0 mu H'' w, hs'', hclosed H'', fun hkk => hk'' (hkj hkk), hrest _ _ _ ((ht.put oi.dst v).put oj.dst u) (hm''.trans hm') ((hput oj _ _).trans (hput oi _ _)) h''⟩
theorem evOne_ok {G : Gam} (hG : GamOk P G) {Qn : Act → World → Prop} {K : Tm → Hp → Prop} {keep : Nat → Bool} (hsel : Region.noSelect ops = true) {i m f : Nat} {listed : Array Bool} (hstep : chkOne ops keep i m listed = true) (hkeep : keep i = true → m ≠ 1)
  {T : Tm} {H : Hp} {a : Act} (ht : TRel n T a) (h : evOne P G n ops.toList K i m T H)
  (hrec : ∀ T' H' a', TRel n T' a' → marksOf H' = marksOf H → a'.defers = a.defers → K T' H' → AnyC P r ops Qn keep f (listed.setIfInBounds i true) a' (fun w => Sat w0 mu H' w)) :
  AnyC P r ops Qn keep (f + 1) listed a (fun w => Sat w0 mu H w) := by
 unfold evOne at h
 unfold chkOne at hstep
 split at h
 case h_2 => exact h.elim
 rename_i o ho
 have ho' : ops[i]? = some o := by simpa using ho
 have hput : ∀ (v : Value), (a.put o.dst v).defers = a.defers := by
  intro v; cases o.dst <;> rfl
 have hclosed : ∀ H : Hp, Closed fun w => Sat w0 mu H w := fun H w w' hw hg => hw.grew hg
 have hfst : ∀ {v : Value}, (m = 0) → YieldsC P ops (fun w => readsM o.op = true → Sat w0 mu H w) o v a → AnyC P r ops Qn keep f (listed.setIfInBounds i true) (a.put o.dst v) (fun w => Sat w0 mu H w) → AnyC P r ops Qn keep (f + 1) listed a (fun w => Sat w0 mu H w) := by
  intro v hm0 hy hA
  subst hm0
  simp only [Bool.and_eq_true] at hstep
  obtain ⟨⟨hready, hfree⟩, hkp⟩ := hstep
  refine AnyC.first (fun j => listed.getD j true = false ∧ ∃ g, depB ops listed i g j = true) ?_ ho' (fun j o' cs b hj => Region.noSelect_spec hsel j o' cs b hj) f listed a _ _ (fun j hj => hj.1) ?_ (by simpa using hready) (hclosed H) (fun u hu _ => hu) hy hA
  · rintro j ⟨_, g, hg⟩ oj hoj
    cases g with
    | zero => cases hg
    | succ g =>
      simp only [depB, hoj] at hg
      obtain ⟨e, he, heb⟩ := Array.any_eq_true'.1 hg
      simp only [Bool.and_eq_true, Bool.or_eq_true, beq_iff_eq, Bool.not_eq_true'] at heb
      exact ⟨e, he, heb.1, heb.2.imp id fun h => ⟨h.1, g, h.2⟩⟩
  intro j oj hj hne hnD hun hno
  refine ⟨Region.free_spec ho' hfree j oj hj hne hun hno, ?_⟩
  have hjlt : j < ops.size := (Array.getElem?_eq_some_iff.1 hj).1
  have := (List.all_eq_true.1 hkp) j (by simpa using hjlt)
  simp only [hj, hun, Bool.or_false, Bool.or_eq_true, beq_iff_eq, hne, or_false, ho', Option.any_some, Bool.not_eq_true'] at this
  rcases this with ((h1 | h1) | h1) | h1
  · exact .inr fun u hu => by rw [h1] at hu; cases hu
  · exact .inl h1
  · obtain ⟨e, he, heb⟩ := Array.any_eq_true'.1 h1
    simp only [Bool.and_eq_true, beq_iff_eq] at heb
    exact absurd heb.2 (hno e he heb.1)
  · exact absurd ⟨hun, _, h1⟩ hnD
 have hone : (m ≠ 0) → Region.ready .any ops listed = [i] := by
  intro hm0
  cases m with
  | zero => exact absurd rfl hm0
  | succ m => simpa using hstep
 rcases gd_ok (ops := ops) ht h with ⟨hw, hA⟩ | ⟨hw, hB⟩
 · cases m with
   | zero =>
     obtain ⟨v, hy, hk⟩ := evTake_ok (w0 := w0) (mu := mu) (ops := ops) hG ht hw hA
     exact hfst rfl hy (hrec _ H _ (ht.put o.dst v) rfl (hput v) hk)
   | succ m =>
     have hr1 := hone (by simp)
     intro w hsw
     rw [hr1]
     refine ⟨fun h => (by cases h), fun j hj => ?_⟩
     obtain rfl : j = i := by simpa using hj
     unfold wpOpIn
     rw [ho']
     dsimp only
     rw [if_pos hw]
     cases m with
     | zero =>
       refine evOp_ok hG ht hsw hA ?_
       intro v H' w' hk hs' hm'
       exact ⟨fun w => Sat w0 mu H' w, hs', hclosed H', fun hkk => absurd rfl (hkeep hkk), hrec _ H' _ (ht.put o.dst v) hm' (hput v) hk⟩
     | succ m =>
       refine evOp_ok hG ht hsw hA ?_
       intro v H' w' hk hs' hm'
       exact ⟨fun w => Sat w0 mu H' w, hs', hclosed H', fun _ u hu => hu.sub hk.1, hrec _ H' _ (ht.put o.dst v) hm' (hput v) hk.2⟩
 · have hy : YieldsC P ops (fun w => readsM o.op = true → Sat w0 mu H w) o undef a := .inr ⟨hw, rfl⟩
   have hA := hrec _ H _ (ht.put o.dst undef) rfl (hput _) hB
   cases m with
   | zero => exact hfst rfl hy hA
   | succ m =>
     have hr1 := hone (by simp)
     intro w hsw
     rw [hr1]
     refine ⟨fun h => (by cases h), fun j hj => ?_⟩
     obtain rfl : j = i := by simpa using hj
     exact hy.wpOp ho' (fun _ => hsw) fun w' hw' => ⟨_, hclosed H w w' hsw hw', hclosed H, fun _ _ h => h, hA⟩
theorem evD_ok {G : Gam} (hG : GamOk P G) {Qn : Act → World → Prop} {K : Tm → Hp → Prop} {M : List Nat} {D : List Deferred} {keep : Nat → Bool} (hsel : Region.noSelect ops = true)
  (hQ : ∀ T H a w, K T H → TRel n T a → Sat w0 mu H w → marksOf H = M → a.defers = D → Qn a w) :
  ∀ (s : List (Nat × Nat)) (listed : Array Bool), chkD ops keep s listed = true → (∀ x ∈ s, keep x.1 = true → x.2 ≠ 1 ∧ x.2 ≠ 3) → ∀ (T : Tm) (H : Hp) (a : Act), TRel n T a → marksOf H = M → a.defers = D →
   evD P G n ops.toList K s T H → AnyC P r ops Qn keep s.length listed a (fun w => Sat w0 mu H w)
 | [], listed, hc, _, T, H, a, ht, hm, hd, h => fun w hw => ⟨by simpa [chkD] using hc, hQ T H a w h ht hw hm hd⟩
 | (i, 0) :: s, listed, hc, hkeep, T, H, a, ht, hm, hd, h => by
   simp only [chkD, Bool.and_eq_true] at hc
   exact evOne_ok hG hsel hc.1 (fun hk => (hkeep (i, 0) (by simp) hk).1) ht h fun T' H' a' ht' hm' hd' hk' => evD_ok hG hsel hQ s _ hc.2 (fun x hx => hkeep x (by simp [hx])) T' H' a' ht' (hm'.trans hm) (hd'.trans hd) hk'
 | (i, 1) :: s, listed, hc, hkeep, T, H, a, ht, hm, hd, h => by
   simp only [chkD, Bool.and_eq_true] at hc
   exact evOne_ok hG hsel hc.1 (fun hk => (hkeep (i, 1) (by simp) hk).1) ht h fun T' H' a' ht' hm' hd' hk' => evD_ok hG hsel hQ s _ hc.2 (fun x hx => hkeep x (by simp [hx])) T' H' a' ht' (hm'.trans hm) (hd'.trans hd) hk'
 | (i, 2) :: s, listed, hc, hkeep, T, H, a, ht, hm, hd, h => by
   simp only [chkD, Bool.and_eq_true] at hc
   exact evOne_ok hG hsel hc.1 (fun hk => (hkeep (i, 2) (by simp) hk).1) ht h fun T' H' a' ht' hm' hd' hk' => evD_ok hG hsel hQ s _ hc.2 (fun x hx => hkeep x (by simp [hx])) T' H' a' ht' (hm'.trans hm) (hd'.trans hd) hk'
 | (_, _ + 3) :: [], listed, hc, hkeep, T, H, a, ht, hm, hd, h => h.elim
 | (i, m + 3) :: (j, k) :: s, listed, hc, hkeep, T, H, a, ht, hm, hd, h => by
   simp only [chkD, Bool.and_eq_true, beq_iff_eq, decide_eq_true_eq, bne_iff_ne, ne_eq] at hc
   obtain ⟨⟨⟨⟨⟨⟨⟨⟨hri, hra⟩, hr1⟩, hr2⟩, hk3⟩, hij⟩, hgi⟩, hgj⟩, hrest⟩ := hc
   simp only [evD] at h
   obtain ⟨oi, hoi, hgi2⟩ : ∃ oi, ops[i]? = some oi ∧ oi.guard = none := by
    cases ho : ops[i]? with
    | none => rw [ho] at hgi; cases hgi
    | some o => rw [ho] at hgi; exact ⟨o, rfl, by simpa using hgi⟩
   obtain ⟨oj, hoj, hgj2⟩ : ∃ oj, ops[j]? = some oj ∧ oj.guard = none := by
    cases ho : ops[j]? with
    | none => rw [ho] at hgj; cases hgj
    | some o => rw [ho] at hgj; exact ⟨o, rfl, by simpa using hgj⟩
   have hrec := evD_ok hG hsel hQ s _ hrest (fun x hx => hkeep x (by simp [hx]))
   intro w hs
   refine ⟨fun h0 => by simp [h0] at hri, fun x hx => ?_⟩
   have hx' := (List.all_eq_true.1 hra) x hx
   simp only [Bool.or_eq_true, beq_iff_eq] at hx'
   rcases hx' with hx' | hx' <;> rw [hx']
   · exact evTwo_ok hG hoi hoj hgi2 hgj2 (fun hk => (hkeep (i, m + 3) (by simp) hk).2) (fun hk => (hkeep (j, k) (by simp) hk).2) hr1 ht hs h.1 fun T' H' a' ht' hm' hd' hk' => hrec T' H' a' ht' (hm'.trans hm) (hd'.trans hd) hk'
   · exact evTwo_ok hG hoj hoi hgj2 hgi2 (fun hk => (hkeep (j, k) (by simp) hk).2) (fun hk => (hkeep (i, m + 3) (by simp) hk).2) hr2 ht hs h.2 fun T' H' a' ht' hm' hd' hk' => by
      rw [Array.setIfInBounds_comm _ _ (Ne.symm hij)]
      exact hrec T' H' a' ht' (hm'.trans hm) (hd'.trans hd) hk'
theorem drawV {G : Gam} (hG : GamOk P G) (hmix : P.follows .mixedOrders = true) {id : Nat} {K : Exit → Tm → Hp → Prop} {T : Tm} {H : Hp} (s : List (Nat × Nat)) (hp : planOk ops s = true)
  (h : evD P G n ops.toList (K .normal) s T H) : WpV P r n (.region id ops true) K T H := by
 intro w0 mu a w hr ht hs hd
 simp only [planOk, Bool.and_eq_true, beq_iff_eq] at hp
 obtain ⟨⟨⟨hsel, hlen⟩, hchk⟩, hall⟩ := hp
 have hkeep : ∀ x ∈ s, keepOf s x.1 = true → x.2 ≠ 1 ∧ x.2 ≠ 3 := fun x hx hk => by
  have := (List.all_eq_true.1 hall) x hx
  simpa [hk] using this
 have hA := evD_ok (r := r) (w0 := w0) (mu := mu) hG (ops := ops) (keep := keepOf s) (M := marksOf H) (D := defersOf H) (Qn := fun a w => ∃ T H, K .normal T H ∧ TRel n T a ∧ Sat w0 mu H w ∧ a.defers = defersOf H) hsel
  (fun T' H' a' w' hk ht' hs' hm hd' => ⟨T', H', hk, ht', hs', by rw [hd', defersOf, defersOf, hm]⟩) s _ hchk hkeep T H a ht rfl hd h
 rw [hlen] at hA
 refine wpIn_mono (wpIn_region_any hmix (AnyC.any _ _ _ _ hA _ hs.drew)) ?_
 rintro e a' w' ⟨rfl, T', H', hk⟩
 exact ⟨T', H', hk⟩
end
end Go.Ev
namespace Go.Ev
open Go.RowKit
abbrev Plans := Nat → List (Nat × Nat)
section
variable {P : Program} {r : Option Nat} {n : Nat}
def evC (P : Program) (G : Gam) (pl : Plans) (r : Option Nat) (n : Nat) : Code → (Exit → Tm → Hp → Prop) → Tm → Hp → Prop
 | .skip, K, T, H => K .normal T H
 | .label _, K, T, H => K .normal T H
 | .ret, K, T, H => K .ret T H
 | .exit id, K, T, H => K (.exit id) T H
 | .seq x y, K, T, H => evC P G pl r n x (thenK (evC P G pl r n y K) K) T H
 | .block id c, K, T, H => evC P G pl r n c (blockK id K) T H
 | .cond c x y, K, T, H => match opd T c with
   | some (.bool b) => (b = true → evC P G pl r n x K T H) ∧ (b = false → evC P G pl r n y K T H)
   | _ => False
 | .region id ops draw, K, T, H => match draw with
   | false => match pl id with
     | [] => evOps P G n ops.toList (K .normal) ops.toList T H
     | _ => WpV P r n (.region id ops false) K T H
   | true => match pl id with
     | [] => WpV P r n (.region id ops true) K T H
     | s => evD P G n ops.toList (K .normal) s T H
 | .loop c, K, T, H => WpV P r n (.loop c) K T H
 | .rangeFunc f ps x y, K, T, H => WpV P r n (.rangeFunc f ps x y) K T H
 | .scope c, K, T, H => WpV P r n (.scope c) K T H
 | .goto l, K, T, H => WpV P r n (.goto l) K T H
 | .refuse _, _, _, _ => False
def chkS (ops : Array Oper) : List Oper → Nat → Bool
 | [], _ => true
 | oi :: r, i => oi.after.all (fun e => !Region.binds .any e || decide (e.on < i)) && r.all (fun oj => oj.after.any (fun e => Region.binds .any e && e.on == i) || oi.apart ops oj) && chkS ops r (i + 1)
def seqP (i n : Nat) : List (Nat × Nat) := (List.range' i n).map fun j => (j, 0)
def ListedTo (n i : Nat) (l : Array Bool) : Prop := l.size = n ∧ ∀ j, j < n → l[j]? = some (decide (j < i))
theorem ListedTo.getD {n i : Nat} {l : Array Bool} (h : ListedTo n i l) {j : Nat} (hj : j < n) (d : Bool) : l.getD j d = decide (j < i) := by
 rw [Array.getD_eq_getD_getElem?, h.2 j hj]; rfl
theorem ListedTo.next {n i : Nat} {l : Array Bool} (h : ListedTo n i l) (hi : i < n) : ListedTo n (i + 1) (l.setIfInBounds i true) := by
 refine ⟨by simpa using h.1, fun j hj => ?_⟩
 rw [Array.getElem?_setIfInBounds]
 split
 · rename_i he
   subst he
   rw [if_pos (by rw [h.1]; exact hj)]
   simp
 · rename_i hne
   rw [h.2 j hj]
   congr 1
   simp only [decide_eq_decide]
   omega
theorem chkD_seq {ops : Array Oper} {keep : Nat → Bool} (hk : ∀ j, j < ops.size → keep j = true) : ∀ (m i : Nat) (l : Array Bool), i + m = ops.size → ListedTo ops.size i l → chkS ops (ops.toList.drop i) i = true → chkD ops keep (seqP i m) l = true
 | 0, i, l, him, hl, _ => by
   show (Region.ready .any ops l).isEmpty = true
   unfold Region.ready
   rw [List.isEmpty_iff, List.filter_eq_nil_iff]
   intro j hj
   rw [List.mem_range] at hj
   rw [hl.getD hj, decide_eq_true (by omega)]
   simp
 | m + 1, i, l, him, hl, hc => by
   have hi : i < ops.size := by omega
   have hil : i < ops.toList.length := by simpa using hi
   have hoi : ops[i]? = some ops[i] := Array.getElem?_eq_getElem hi
   rw [List.drop_eq_getElem_cons hil] at hc
   simp only [chkS, Bool.and_eq_true] at hc
   obtain ⟨⟨h1, h2⟩, h3⟩ := hc
   rw [Array.getElem_toList] at h1 h2
   have ih := chkD_seq hk m (i + 1) (l.setIfInBounds i true) (by omega) (hl.next hi) h3
   show (chkOne ops keep i 0 l && chkD ops keep (seqP (i + 1) m) (l.setIfInBounds i true)) = true
   rw [ih, Bool.and_true]
   refine Bool.and_eq_true_iff.2 ⟨Bool.and_eq_true_iff.2 ⟨?_, ?_⟩, ?_⟩
   · unfold Region.ready
     rw [List.contains_iff_mem, List.mem_filter]
     refine ⟨List.mem_range.2 hi, ?_⟩
     rw [hl.getD hi, decide_eq_false (by omega), hoi]
     simp only [Bool.not_false, Bool.true_and, Option.map_some, Option.getD_some]
     rw [Array.all_eq_true_iff_forall_mem] at h1 ⊢
     intro e he
     have := h1 e he
     rw [Bool.or_eq_true] at this ⊢
     refine this.imp id fun h => ?_
     rw [decide_eq_true_eq] at h
     rw [hl.getD (by omega), decide_eq_true h]
   · unfold Region.free
     rw [hoi]
     dsimp only
     rw [List.all_eq_true]
     intro j hj
     rw [List.mem_range] at hj
     rcases Nat.lt_trichotomy j i with h | h | h
     · rw [hl.getD hj, decide_eq_true h]; simp
     · subst h; simp
     · have hoj : ops[j]? = some ops[j] := Array.getElem?_eq_getElem hj
       rw [hoj]
       dsimp only
       have hm : ops[j] ∈ ops.toList.drop (i + 1) := by
        rw [List.mem_iff_getElem?]
        refine ⟨j - (i + 1), ?_⟩
        rw [List.getElem?_drop, show i + 1 + (j - (i + 1)) = j by omega, Array.getElem?_toList, hoj]
       rw [List.all_eq_true.1 h2 _ hm]
       simp
   · rw [List.all_eq_true]
     intro j hj
     rw [List.mem_range] at hj
     rw [hk j hj]
     simp
def planS (ops : Array Oper) (s : List (Nat × Nat)) : Bool := s == seqP 0 ops.size && Region.noSelect ops && chkS ops ops.toList 0
theorem planS_ok {ops : Array Oper} {s : List (Nat × Nat)} (h : planS ops s = true) : planOk ops s = true := by
 unfold planS at h
 simp only [Bool.and_eq_true, beq_iff_eq] at h
 obtain ⟨⟨rfl, h1⟩, h2⟩ := h
 have hk : ∀ j, j < ops.size → keepOf (seqP 0 ops.size) j = true := fun j hj => by
  unfold keepOf seqP
  rw [List.any_eq_true]
  exact ⟨(j, 0), List.mem_map.2 ⟨j, by rw [List.mem_range'_1]; omega, rfl⟩, by simp⟩
 unfold planOk
 rw [h1, chkD_seq hk ops.size 0 _ (by omega) ⟨by simp, fun j hj => by simp [hj]⟩ (by simpa using h2)]
 simp only [Bool.true_and, Bool.and_true, Bool.and_eq_true, beq_iff_eq]
 refine ⟨by simp [seqP], ?_⟩
 rw [List.all_eq_true]
 intro x hx
 obtain ⟨j, _, rfl⟩ := List.mem_map.1 hx
 simp
def plansOk (pl : Plans) : Code → Bool
 | .region id ops draw => !draw || (pl id).isEmpty || (planS ops (pl id) || planOk ops (pl id))
 | .seq a b => plansOk pl a && plansOk pl b
 | .cond _ a b => plansOk pl a && plansOk pl b
 | .block _ c => plansOk pl c
 | _ => true
theorem evC_ok {G : Gam} (hG : GamOk P G) {pl : Plans} (hmix : P.follows .mixedOrders = true) : ∀ (c : Code) (K : Exit → Tm → Hp → Prop) (T : Tm) (H : Hp), plansOk pl c = true → evC P G pl r n c K T H → WpV P r n c K T H
 | .skip, K, T, H, _, h => fun w0 mu a w hr ht hs hd => wpIn_skip ⟨T, H, h, ht, hs, hd⟩
 | .label _, K, T, H, _, h => fun w0 mu a w hr ht hs hd => wpIn_label ⟨T, H, h, ht, hs, hd⟩
 | .ret, K, T, H, _, h => fun w0 mu a w hr ht hs hd => wpIn_ret ⟨T, H, h, ht, hs, hd⟩
 | .exit id, K, T, H, _, h => fun w0 mu a w hr ht hs hd => wpIn_exit ⟨T, H, h, ht, hs, hd⟩
 | .seq x y, K, T, H, hp, h => fun w0 mu a w hr ht hs hd => by
   simp only [plansOk, Bool.and_eq_true] at hp
   refine wpIn_seq (wpIn_mono (evC_ok hG hmix x _ T H hp.1 h w0 mu a w hr ht hs hd) ?_)
   rintro e a' w' ⟨T', H', hk, ht', hs', hd'⟩
   cases e with
   | normal => exact evC_ok hG hmix y K T' H' hp.2 hk w0 mu a' w' hr ht' hs' hd'
   | _ => exact ⟨T', H', hk, ht', hs', hd'⟩
 | .block id c, K, T, H, hp, h => fun w0 mu a w hr ht hs hd => by
   refine wpIn_block (wpIn_mono (evC_ok hG hmix c _ T H (by simpa only [plansOk] using hp) h w0 mu a w hr ht hs hd) ?_)
   rintro e a' w' ⟨T', H', hk, ht', hs', hd'⟩
   cases e with
   | exit id' =>
     simp only [Exit.inBlock]
     simp only [blockK] at hk
     split
     · rename_i hid; rw [if_pos hid] at hk; exact ⟨T', H', hk, ht', hs', hd'⟩
     · rename_i hid; rw [if_neg hid] at hk; exact ⟨T', H', hk, ht', hs', hd'⟩
   | _ => exact ⟨T', H', hk, ht', hs', hd'⟩
 | .cond c x y, K, T, H, hp, h => fun w0 mu a w hr ht hs hd => by
   simp only [plansOk, Bool.and_eq_true] at hp
   simp only [evC] at h
   split at h
   · rename_i b hc
     refine wpIn_cond (opd_eval ht hc) ?_
     cases b
     · exact evC_ok hG hmix y K T H hp.2 (h.2 rfl) w0 mu a w hr ht hs hd
     · exact evC_ok hG hmix x K T H hp.1 (h.1 rfl) w0 mu a w hr ht hs hd
   · exact h.elim
 | .region id ops draw, K, T, H, hp, h => by
   cases draw with
   | true =>
     simp only [plansOk, Bool.not_true, Bool.false_or, Bool.or_eq_true] at hp
     simp only [evC] at h
     split at h
     · exact h
     · rename_i s hne
       rcases hp with hp | hp
       · exact absurd (by simpa using hp) hne
       · exact drawV hG hmix _ (hp.elim planS_ok fun hh => hh) h
   | false =>
     simp only [evC] at h
     split at h
     case h_2 => exact h
     intro w0 mu a w hr ht hs hd
     refine wpIn_region ?_
     rw [List.range_eq_range', ← Array.length_toList]
     refine evOps_ok hG (K := K .normal) (M := marksOf H) (D := defersOf H) (fun T' H' a' w' hk ht' hs' hm hd' => ⟨T', H', hk, ht', hs', ?_⟩) ops.toList 0 rfl T H a w ht hs rfl hd h
     rw [hd', defersOf, defersOf, hm]
 | .loop _, _, _, _, _, h => h
 | .rangeFunc _ _ _ _, _, _, _, _, h => h
 | .scope _, _, _, _, _, h => h
 | .goto _, _, _, _, _, h => h
 | .refuse _, _, _, _, _, h => h.elim
end
theorem regV {P : Program} {G : Gam} (hG : GamOk P G) {r : Option Nat} {n : Nat} {id : Nat} {ops : Array Oper} {K : Exit → Tm → Hp → Prop} {T : Tm} {H : Hp} (h : evOps P G n ops.toList (K .normal) ops.toList T H) : WpV P r n (.region id ops false) K T H := by
 intro w0 mu a w hr ht hs hd
 refine wpIn_region ?_
 rw [List.range_eq_range', ← Array.length_toList]
 refine evOps_ok hG (K := K .normal) (M := marksOf H) (D := defersOf H) (fun T' H' a' w' hk ht' hs' hm hd' => ⟨T', H', hk, ht', hs', ?_⟩) ops.toList 0 rfl T H a w ht hs rfl hd h
 rw [hd', defersOf, defersOf, hm]
theorem callsV_of_body {P : Program} {G : Gam} (hG : GamOk P G) (hmix : P.follows .mixedOrders = true) (pl : Plans) {g : FuncId} {fn : Func} {c : Code} {n : Nat} {rs : List ResultVar} {args : List Value} {H : Hp} {K : Value → Hp → Prop} (hf : P.funcs[g]? = some fn) (hb : fn.body = some c) (hn : fn.ntmps = n) (hrs : fn.results = rs.toArray)
  (hname : (fn.name == "runtime.NumGoroutine") = false) (hm : marksOf H = []) (hlen : args.length ≤ n) (hpl : plansOk pl c = true) (h : evC P G pl none n c (retK P rs K) (initT 0 args) H) : CallsV P g args H K := by
 refine ⟨fun as w => ?_, fun w0 mu w hs => ?_⟩
 · have hname' : ¬ fn.name = "runtime.NumGoroutine" := by simpa using hname
   simp [callFunc, hf, hname', hb]
 · refine callsIn_of_wp_marks hf hb trivial ?_
   subst hn
   obtain rfl : rs = fn.results.toList := by rw [hrs]
   have ht : TRel fn.ntmps (initT 0 args) { tmps := args.toArray ++ Array.replicate (fn.ntmps - args.toArray.size) undef, defers := [] } := by
    refine ⟨by simp; omega, fun k v hk => ?_⟩
    obtain ⟨_, h2⟩ := getT_initT args 0 k v hk
    have hlt := (List.getElem?_eq_some_iff.1 h2).1
    rw [Array.getElem?_append_left (by simpa using hlt)]
    simpa using h2
   refine wpIn_mono (evC_ok hG hmix c _ _ H hpl h w0 mu _ w (RoundOk.none_ _ _) ht hs (by simp [defersOf, hm])) ?_
   rintro e a' w' ⟨T', H', hk, ht', hs', hd'⟩
   have fin : (match optL (fn.results.toList.map (resV P T' (dropM H'))) with
    | some vs => ∃ H'', H''.Sublist (dropM H') ∧ K (resOf vs) H''
    | none => False) → LeavesInM (Fr none) 0 P fn a'.tmps (fun e w' => ∃ v H', e = .returned v ∧ K v H' ∧ Sat w0 mu H' w' ∧ marksOf H' = marksOf H) a'.defers .returning w' := by
    intro hk
    split at hk
    case h_2 => exact hk.elim
    rename_i vs hvs
    obtain ⟨H'', hsub, hK⟩ := hk
    rw [hd']
    refine leaves_marks _ H' w' rfl hs' fun w'' hs'' => ⟨resOf vs, run_results ht' hs'' hvs, resOf vs, H'', rfl, hK, hs''.weak hsub, ?_⟩
    rw [hm]
    exact marks_sub hsub (marks_dropM H')
   cases e with
   | normal => exact fin hk
   | ret => exact fin hk
   | _ => exact hk.elim
theorem least {S : Nat → Prop} (h : ∃ k, S k) : ∃ k, S k ∧ ∀ j, S j → k ≤ j := by
 obtain ⟨k, hk⟩ := h
 induction k using Nat.strongRecOn with
 | _ k ih =>
   by_cases hj : ∃ j, j < k ∧ S j
   · obtain ⟨j, hlt, hs⟩ := hj; exact ih j hlt hs
   · refine ⟨k, hk, fun j hs => ?_⟩
     rcases Nat.lt_or_ge j k with hlt | hge
     · exact absurd ⟨j, hlt, hs⟩ hj
     · exact hge
theorem loopV {P : Program} {G : Gam} (hG : GamOk P G) (hmix : P.follows .mixedOrders = true) {pl : Plans} {r : Option Nat} {n : Nat} {c : Code} {K : Exit → Tm → Hp → Prop} {T : Tm} {H : Hp} {X : Type} (f : X → Tm × Hp) (ok : X → Prop) (μ : X → Nat) (x0 : X) (h0 : ok x0) (hsub : SubS T H (f x0))
  (hpl : plansOk pl c = true) (round : ∀ x, ok x → evC P G pl r n c (thenK (fun T' H' => ∃ x', ok x' ∧ μ x' < μ x ∧ SubS T' H' (f x')) K) (f x).1 (f x).2) : WpV P r n (.loop c) K T H := by
 refine WpV.sub hsub ?_
 intro w0 mu a w hr ht hs hd
 let R : X → Act → World → Prop := fun x a w => ok x ∧ TRel n (f x).1 a ∧ Sat w0 mu (f x).2 w ∧ a.defers = defersOf (f x).2
 have hr0 : R x0 a w := ⟨h0, ht, hs, hd⟩
 let S : Act → World → Nat → Prop := fun a w k => ∃ x, R x a w ∧ μ x = k
 refine wpIn_loop (fun a w => ∃ k, S a w k) (fun a w => @dite Nat (∃ k, S a w k) (Classical.propDecidable _) (fun h => Classical.choose (least h)) (fun _ => 0)) ⟨_, x0, hr0, rfl⟩ ?_
 intro a w hex
 rw [dif_pos hex]
 obtain ⟨⟨x, ⟨hok, ht, hs, hd⟩, hμ⟩, _⟩ := Classical.choose_spec (least hex)
 refine wpIn_mono (evC_ok hG hmix c _ _ _ hpl (round x hok) w0 mu a w hr ht hs hd) ?_
 rintro e a' w' ⟨T', H', hk, ht', hs', hd'⟩
 cases e with
 | normal =>
   obtain ⟨x', hok', hlt, hsub'⟩ := hk
   have hr' : S a' w' (μ x') := ⟨x', ⟨hok', ht'.sub hsub'.1, hs'.sub hsub'.2.1, by rw [hd', defersOf, defersOf, hsub'.2.2]⟩, rfl⟩
   refine ⟨⟨_, hr'⟩, ?_⟩
   rw [dif_pos ⟨_, hr'⟩, ← hμ]
   exact Nat.lt_of_le_of_lt ((Classical.choose_spec (least ⟨_, hr'⟩)).2 _ hr') hlt
 | _ => exact ⟨T', H', hk, ht', hs', hd'⟩
def evUn (P : Program) (G : Gam) (pl : Plans) (r : Option Nat) (n : Nat) (c : Code) (K : Exit → Tm → Hp → Prop) : Nat → Tm → Hp → Prop
 | 0, _, _ => False
 | m + 1, T, H => evC P G pl r n c (thenK (evUn P G pl r n c K m) K) T H
theorem unrollV {P : Program} {G : Gam} (hG : GamOk P G) (hmix : P.follows .mixedOrders = true) {pl : Plans} {r : Option Nat} {n : Nat} {c : Code} {K : Exit → Tm → Hp → Prop} {T : Tm} {H : Hp} (m : Nat) (hpl : plansOk pl c = true)
  (h : evUn P G pl r n c K m T H) : WpV P r n (.loop c) K T H := by
 intro w0 mu a w hr ht hs hd
 let S : Act → World → Nat → Prop := fun a w k => ∃ T H, evUn P G pl r n c K k T H ∧ TRel n T a ∧ Sat w0 mu H w ∧ a.defers = defersOf H
 refine wpIn_loop (fun a w => ∃ k, S a w k) (fun a w => @dite Nat (∃ k, S a w k) (Classical.propDecidable _) (fun h => Classical.choose (least h)) (fun _ => 0)) ⟨m, T, H, h, ht, hs, hd⟩ ?_
 intro a w hex
 rw [dif_pos hex]
 obtain ⟨⟨T, H, hev, ht, hs, hd⟩, _⟩ := Classical.choose_spec (least hex)
 generalize Classical.choose (least hex) = k at hev ⊢
 cases k with
 | zero => exact hev.elim
 | succ k =>
   refine wpIn_mono (evC_ok hG hmix c _ _ _ hpl hev w0 mu a w hr ht hs hd) ?_
   rintro e a' w' ⟨T', H', hk, ht', hs', hd'⟩
   cases e with
   | normal =>
     have hr' : S a' w' k := ⟨T', H', hk, ht', hs', hd'⟩
     refine ⟨⟨_, hr'⟩, ?_⟩
     rw [dif_pos ⟨_, hr'⟩]
     exact Nat.lt_succ_of_le ((Classical.choose_spec (least ⟨_, hr'⟩)).2 _ hr')
   | _ => exact ⟨T', H', hk, ht', hs', hd'⟩
end Go.Ev
namespace Go.Ev
open Go.RowKit
theorem CallsV.useM {P : Program} {g : FuncId} {args : List Value} {m : Ent} {Hf H : Hp} {K K' : Value → Hp → Prop} (hc : CallsV P g args (m :: Hf) K) (hm : findE H m.blk = some m) (hw : m.kind.solid = true) (hd : derE (remE H m.blk) Hf)
  (hk : ∀ v N, K v N → allWr N ∧ marksOf N = [] ∧ (freshN N (remE H m.blk) → K' v (N ++ remE H m.blk))) : CallsV P g args H K' := by
 refine ⟨hc.1, fun w0 mu w hs => ?_⟩
 have hmw : m.wr := by unfold Ent.wr; cases hk : m.kind <;> simp [Kind.solid, hk] at hw ⊢
 have hmo : ∀ o, m.kind ≠ .obj o := by intro o ho; rw [ho] at hw; simp [Kind.solid] at hw
 obtain ⟨hmem, _⟩ := findE_mem hm
 have hs1 := hs.weak (remE_sub H m.blk)
 have hne0 := remE_ne hmw hs.apart hm
 have hder := derE_mem hd
 have hro : ∀ e ∈ Hf, ¬ e.wr := fun e he hw => by unfold Ent.wr at hw; rw [(hder e he).1] at hw; exact hw
 have hblk : ∀ e ∈ Hf, e.blk ≠ m.blk ∧ e.blk < w.heap.size := fun e he => by
  have h2 := (hder e he).2
  unfold cellsAt at h2
  split at h2
  · rename_i e' he'
    obtain ⟨hm', hb⟩ := findE_mem he'
    rw [← hb]; exact ⟨hne0 e' hm', Ent.lt (hs1.ents e' hm')⟩
  · cases h2
 have hmf : marksOf (m :: Hf) = [] := by
  have : ∀ L : Hp, (∀ e ∈ L, e.kind = .ro) → marksOf L = [] := by
   intro L
   induction L with
   | nil => intro _; rfl
   | cons x r ih => intro h; simp only [marksOf, h x (by simp)]; exact ih fun e he => h e (by simp [he])
  have h1 := this Hf fun e he => (hder e he).1
  simp only [marksOf]
  split
  · rename_i hk; exact absurd hk (hmo _)
  · exact h1
 have hsf : Sat w (fun b => b = m.blk) (m :: Hf) w := by
  refine ⟨rfl, rfl, rfl, Nat.le_refl _, fun _ _ _ => rfl, ?_, ?_, List.pairwise_cons.2 ⟨fun e he _ => (hblk e he).1.symm, ?_⟩⟩
  · intro e he
    rcases List.mem_cons.1 he with rfl | he
    · exact hs.ents _ hmem
    · obtain ⟨h1, h2⟩ := hder e he
      unfold Ent.holds
      rw [h1]
      exact ⟨(hblk e he).2, (hs1.cellsAt h2).2⟩
  · intro e he hw
    rcases List.mem_cons.1 he with rfl | he
    · exact .inl rfl
    · exact absurd hw (hro e he)
  · exact List.pairwise_iff_forall_sublist.2 fun {a b} hab => by
     intro hw
     rcases hw with hw | hw
     · exact absurd hw (hro a (hab.subset (by simp)))
     · exact absurd hw (hro b (hab.subset (by simp)))
 refine (hc.2 w _ w hsf).mono ?_
 rintro e w' ⟨v, N, rfl, hK, hsN, hmN⟩
 obtain ⟨hwN, hmN0, hk'⟩ := hk v N hK
 have hge : ∀ e ∈ N, e.blk = m.blk ∨ w.heap.size ≤ e.blk := fun e he => hsN.own e he (allWr_mem hwN e he)
 have hne : ∀ e ∈ N, ∀ x ∈ remE H m.blk, x.blk ≠ e.blk := fun e he x hx => by
  rcases hge e he with h | h
  · rw [h]; exact hne0 x hx
  · have := Ent.lt (hs1.ents x hx); omega
 have hmb : mu m.blk ∨ w0.heap.size ≤ m.blk := hs.own _ hmem hmw
 refine ⟨v, N ++ remE H m.blk, rfl, hk' (freshN_of hne), ⟨hsN.os.trans hs.os, hsN.tape.trans hs.tape, hsN.output.trans hs.output, Nat.le_trans hs.size hsN.size, ?_, ?_, ?_, ?_⟩, ?_⟩
 · intro b hb hmu
   rw [hsN.old b (Nat.lt_of_lt_of_le hb hs.size) (by rintro rfl; rcases hmb with h | h; exact hmu h; omega)]
   exact hs.old b hb hmu
 · intro x hx
   rcases List.mem_append.1 hx with hx | hx
   · exact hsN.ents x hx
   · exact Ent.holds_of (hs1.ents x hx) (hsN.old _ (Ent.lt (hs1.ents x hx)) (hne0 x hx))
 · intro x hx hxw
   rcases List.mem_append.1 hx with hx | hx
   · rcases hge x hx with h | h
     · rw [h]; exact hmb
     · exact .inr (Nat.le_trans hs.size h)
   · exact hs1.own x hx hxw
 · exact List.pairwise_append.2 ⟨hsN.apart, hs1.apart, fun x hx y hy _ => (hne x hx y hy).symm⟩
 · rw [marks_append, hmN0, marks_remE hm hmo]; rfl
end Go.Ev
