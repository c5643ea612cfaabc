/- EvL: what a part of memory does, beside the rest; an iterator's contract; a range over it. -/
import Derived.Test.YtndioekjgmbomaaDoorEvK
set_option linter.unusedSimpArgs false
set_option linter.unusedVariables false
namespace Go.Ev
open Go.RowKit

def muOf (H : Hp) (b : Nat) : Prop := ∃ e ∈ H, e.wr ∧ e.blk = b

section
variable {w0 w w' : World} {mu : Nat → Prop} {A H H' : Hp}

theorem frame_in (h : Sat w0 mu (A ++ H) w) : Sat w (muOf H) H w :=
  ⟨rfl, rfl, rfl, Nat.le_refl _, fun _ _ _ => rfl, fun e he => h.ents e (List.mem_append_right A he), fun e he hw => .inl ⟨e, he, hw, rfl⟩, (List.pairwise_append.1 h.apart).2.1⟩

theorem frame_out (h : Sat w0 mu (A ++ H) w) (h' : Sat w (muOf H) H' w') (hro : ∀ e ∈ H', e.wr ∨ ∀ a ∈ A, a.wr → a.blk ≠ e.blk) : Sat w0 mu (A ++ H') w' := by
  obtain ⟨pA, pH, pAH⟩ := List.pairwise_append.1 h.apart
  have hmu : ∀ b, muOf H b → mu b ∨ w0.heap.size ≤ b := by
    rintro b ⟨e, he, hw, rfl⟩
    exact h.own e (List.mem_append_right A he) hw
  have hA : ∀ a ∈ A, ¬ muOf H a.blk := by
    rintro a ha ⟨e, he, hw, hb⟩
    exact pAH a ha e he (.inr hw) hb.symm
  refine ⟨h'.os.trans h.os, h'.tape.trans h.tape, h'.output.trans h.output, Nat.le_trans h.size h'.size, ?_, ?_, ?_, List.pairwise_append.2 ⟨pA, h'.apart, ?_⟩⟩
  · intro b hb hm
    rw [h'.old b (Nat.lt_of_lt_of_le hb h.size) (fun hh => by rcases hmu b hh with h1 | h1; exact hm h1; omega)]
    exact h.old b hb hm
  · intro e he
    rcases List.mem_append.1 he with he | he
    · have hh := h.ents e (List.mem_append_left H he)
      exact Ent.holds_of hh (h'.old _ (Ent.lt hh) (hA e he))
    · exact h'.ents e he
  · intro e he hw
    rcases List.mem_append.1 he with he | he
    · exact h.own e (List.mem_append_left H he) hw
    · rcases h'.own e he hw with h1 | h1
      · exact hmu _ h1
      · exact .inr (Nat.le_trans h.size h1)
  · intro a ha e he hw
    have halt := Ent.lt (h.ents a (List.mem_append_left H ha))
    by_cases hew : e.wr
    · rcases h'.own e he hew with ⟨x, hx, hxw, hxb⟩ | h1
      · rw [← hxb]; exact pAH a ha x hx (.inr hxw)
      · omega
    · exact ((hro e he).resolve_left hew) a ha (hw.resolve_right hew)

theorem Sat.perm (h : Sat w0 mu H w) (hp : H.Perm H') : Sat w0 mu H' w :=
  ⟨h.os, h.tape, h.output, h.size, h.old, fun e he => h.ents e (hp.mem_iff.2 he), fun e he => h.own e (hp.mem_iff.2 he),
   (hp.pairwise_iff (fun {x y} hxy hw => (hxy hw.symm).symm)).1 h.apart⟩

/-- an object turned -/
theorem Sat.setObj {L : Nat} {o o' : Obj} {R : Hp} (h : Sat w0 mu (⟨L, 0, .obj o, []⟩ :: R) w) (ho : o'.isCells = false) : Sat w0 mu (⟨L, 0, .obj o', []⟩ :: R) (w.putObj L o') := by
  obtain ⟨p1, p2⟩ := List.pairwise_cons.1 h.apart
  have hh := h.ents _ (List.mem_cons_self ..)
  have hlt := Ent.lt hh
  have hw : Ent.wr ⟨L, 0, .obj o, []⟩ := trivial
  have ht : Turn L w (w.putObj L o') := ⟨rfl, rfl, rfl, by simp [World.putObj], fun j hj hne => by simp [World.putObj, Array.getElem?_setIfInBounds_ne (Ne.symm hne)]⟩
  refine h.front ht (h.own _ (List.mem_cons_self ..) hw) rfl ?_ (fun x hx => ⟨List.mem_cons_of_mem _ hx, fun e => p1 x hx (.inl hw) e.symm⟩) p2
  unfold Ent.holds
  exact ⟨rfl, World.putObj_heap_same hlt, ho⟩

theorem Sat.dropObj {L : Nat} {o o' : Obj} {R : Hp} (h : Sat w0 mu (⟨L, 0, .obj o, []⟩ :: R) w) : Sat w0 mu R (w.putObj L o') := by
  obtain ⟨p1, p2⟩ := List.pairwise_cons.1 h.apart
  have hw : Ent.wr ⟨L, 0, .obj o, []⟩ := trivial
  have ht : Turn L w (w.putObj L o') := ⟨rfl, rfl, rfl, by simp [World.putObj], fun j hj hne => by simp [World.putObj, Array.getElem?_setIfInBounds_ne (Ne.symm hne)]⟩
  exact h.turn_drop ht (h.own _ (List.mem_cons_self ..) hw) (List.sublist_cons_self ..) fun x hx e => p1 x hx (.inl hw) e.symm

theorem Sat.objAt {L : Nat} {o : Obj} {R : Hp} (h : Sat w0 mu (⟨L, 0, .obj o, []⟩ :: R) w) : w.heap[L]? = some o := (h.ents _ (List.mem_cons_self ..)).2.1
end

/-- what is only read in H' is apart from A, as what is only read in H is -/
theorem YieldV.frame {P : Program} {l : Nat} {args : List Value} {A H : Hp} {K K' : Value → Hp → Prop} (hy : YieldV P l args H K) (hro : ∀ v H', K v H' → ∀ e ∈ H', e.wr ∨ e ∈ H) (hk : ∀ v H', K v H' → K' v (A ++ H')) : YieldV P l args (A ++ H) K' := by
  intro w0 mu w hs
  obtain ⟨fn, tmps, assign, body, h1, h2⟩ := hy w (muOf H) w (frame_in hs)
  refine ⟨fn, tmps, assign, body, h1, h2.mono ?_⟩
  rintro e w' ⟨v, H', rfl, hK, hs', hm⟩
  have pAH := (List.pairwise_append.1 hs.apart).2.2
  exact ⟨v, A ++ H', rfl, hk v H' hK, frame_out hs hs' (fun e he => (hro v H' hK e he).imp id fun hm a ha hw => pAH a ha e hm (.inl hw)), by rw [marks_append, marks_append, hm]⟩

/-- **An iterator's contract**: called with a loop's yield it hands over vs, one behind the other, till a round says no. 'Ho': what lies beside, as the rounds leave it. -/
def IterV (P : Program) (gf : FuncId) (caps : List Value) (Hc : Hp) (vs : List (List Value)) : Prop :=
  (∀ (as : Array Value) (w : World), (callFunc gf as).run P w = .ok (.enter gf as) w) ∧
  ∀ (X : Type) (Ho : X → Hp) (I : Nat → X → Prop) (St : X → Prop) (l : Nat) (x0 : X), (∀ x y, ∀ e ∈ Ho y, e.wr ∨ e ∈ Ho x) → (∀ x, marksOf (Ho x) = []) → I 0 x0 →
    (∀ k x args, vs[k]? = some args → I k x → YieldV P l args (Ho x) fun v H' => (v = .bool true ∧ ∃ x', I (k + 1) x' ∧ H' = Ho x') ∨ (v = .bool false ∧ ∃ x', St x' ∧ H' = Ho x')) →
    CallsV P gf (.func (.yield l) #[] #[] :: caps) (Hc ++ Ho x0) fun _ H' => ∃ x, (I vs.length x ∨ St x) ∧ H' = Ho x

def parT (n : Nat) (T : Tm) : List Tmp → List Value → Tm
  | p :: ps, v :: vs => parT n (putT n T (some p) v) ps vs
  | _, _ => T

theorem parT_ok {n : Nat} : ∀ (ps : List Tmp) (vs : List Value) (T : Tm) (a : Act), TRel n T a →
    TRel n (parT n T ps vs) { tmps := (ps.zip vs).foldl (fun t (x : Tmp × Value) => t.setIfInBounds x.1 x.2) a.tmps, defers := [] }
  | [], vs, T, a, h => ⟨h.size, h.get⟩
  | p :: ps, [], T, a, h => ⟨h.size, h.get⟩
  | p :: ps, v :: vs, T, a, h => parT_ok ps vs (putT n T (some p) v) (a.put (some p) v) (h.put (some p) v)

/-- entries that are only read stand in H -/
def roSub : Hp → Hp → Prop
  | [], _ => True
  | e :: r, H => (e.wr ∨ e ∈ H) ∧ roSub r H
theorem roSub_mem {H : Hp} : ∀ {L : Hp}, roSub L H → ∀ e ∈ L, e.wr ∨ e ∈ H
  | [], _, e, he => by cases he
  | x :: r, h, e, he => by
    rcases List.mem_cons.1 he with rfl | he
    · exact h.1
    · exact roSub_mem h.2 e he
theorem roSub_of {H : Hp} : ∀ {L : Hp}, (∀ e ∈ L, e.wr ∨ e ∈ H) → roSub L H
  | [], _ => trivial
  | x :: r, h => ⟨h x (by simp), roSub_of fun e he => h e (by simp [he])⟩
theorem roSub_self (H : Hp) : roSub H H := roSub_of fun _ he => .inr he

/-- how a round may be left -/
def roundK {X : Type} (Ho : X → Hp) (I : Nat → X → Prop) (Stop : Code → X → Prop) (k : Nat) : Exit → Tm → Hp → Prop
  | .normal, _, H => ∃ x, I (k + 1) x ∧ subH H (Ho x)
  | .ret, _, H => ∃ x, Stop .ret x ∧ subH H (Ho x)
  | .exit id, _, H => ∃ x, Stop (.exit id) x ∧ subH H (Ho x)
  | .goto t, _, H => ∃ x, Stop (.goto t) x ∧ subH H (Ho x)
  | _, _, _ => False

theorem marks_wr : ∀ {H : Hp}, (∀ e ∈ H, ∃ o, e.kind = .obj o) → ∀ e ∈ H, e.wr := fun h e he => by
  obtain ⟨o, ho⟩ := h e he
  unfold Ent.wr; rw [ho]; trivial

/-- one round -/
theorem round_ok {P : Program} {G : Gam} (hG : GamOk P G) (hmix : P.follows .mixedOrders = true) {pl : Plans} {n : Nat} {ps : Array Tmp} {assign body : Code} {T : Tm} {args : List Value} {X : Type} {Ho : X → Hp} {I : Nat → X → Prop} {Stop : Code → X → Prop} {a : Act} {L : Nat} {A : Hp} {rec : LoopState → Option Code → Loop} {fn : FuncId}
    (hrec : rec = fun st pe => { state := st, pending := pe, fn, tmps := a.tmps, params := ps, assign, body, defers := (rec .ready none).defers }) (ht : TRel n T a) (hps : args.length = ps.size)
    (hmk : ∀ x, marksOf (Ho x) = []) (hro : ∀ x y, ∀ e ∈ Ho y, e.wr ∨ e ∈ Ho x) (k : Nat) (x : X) (hpa : plansOk pl assign = true) (hpb : plansOk pl body = true)
    (hb : evC P G pl (some L) n assign (thenK (fun T' H' => marksOf H' = [] ∧ roSub H' (Ho x) ∧ evC P G pl (some L) n body (roundK Ho I Stop k) T' H') (fun _ _ _ => False)) (parT n T ps.toList args) (Ho x)) :
    YieldV P L args (⟨L, 0, .obj (.loop (rec .ready none)), []⟩ :: (A ++ Ho x)) fun v H' => (v = .bool true ∧ ∃ x', I (k + 1) x' ∧ H' = ⟨L, 0, .obj (.loop (rec .ready none)), []⟩ :: (A ++ Ho x')) ∨
      (v = .bool false ∧ ∃ x' c, Stop c x' ∧ H' = ⟨L, 0, .obj (.loop (rec .done (some c))), []⟩ :: (A ++ Ho x')) := by
  intro w0 mu W hs
  have hl := hs.objAt
  have hpar : args.toArray.size = (rec .ready none).params.size := by rw [hrec]; simpa using hps
  refine ⟨_, _, _, _, run_yield (P := P) (args := args.toArray) hl hpar, ?_⟩
  have e1 : (rec .ready none).fn = fn := by rw [hrec]
  have e2 : (rec .ready none).params = ps := by rw [hrec]
  have e3 : (rec .ready none).tmps = a.tmps := by rw [hrec]
  have e4 : (rec .ready none).assign = assign := by rw [hrec]
  have e5 : (rec .ready none).body = body := by rw [hrec]
  rw [e1, e2, e3, e4, e5]
  refine roundIn_of_wpIn trivial ?_
  have hfold : (ps.zip args.toArray).foldl (fun tmps (x : Tmp × Value) => tmps.setIfInBounds x.1 x.2) a.tmps = (ps.toList.zip args).foldl (fun t (x : Tmp × Value) => t.setIfInBounds x.1 x.2) a.tmps := by
    rw [← Array.foldl_toList, Array.toList_zip]
  have hfold' : (ps.zip args.toArray).foldl (fun tmps (t, a) => tmps.setIfInBounds t a) a.tmps = (ps.toList.zip args).foldl (fun t (x : Tmp × Value) => t.setIfInBounds x.1 x.2) a.tmps := hfold
  rw [hfold']
  have ht1 := parT_ok ps.toList args T a ht
  have hs1 : Sat w0 mu ((⟨L, 0, .obj (.loop (rec .ready none)), []⟩ :: A) ++ Ho x) W := hs
  have hin := frame_in hs1
  have pAH := (List.pairwise_append.1 hs1.apart).2.2
  have hLlt : L < W.heap.size := (Array.getElem?_eq_some_iff.1 hl).1
  have hLmu : ∀ H' : Hp, (∀ e ∈ H', e.wr → L ≠ e.blk) → ¬ muOf H' L := by
    rintro H' hh ⟨e, he, hw, hb⟩
    exact hh e he hw hb.symm
  have hrA : RoundOk (some L) W (muOf (Ho x)) := fun l hl' => by
    cases hl'
    exact ⟨hLlt, hLmu _ (fun e he _ => pAH ⟨L, 0, .obj (.loop (rec .ready none)), []⟩ (by simp) e he (.inl trivial)), _, hl⟩
  refine wpIn_mono (evC_ok hG hmix assign _ _ _ hpa hb W (muOf (Ho x)) _ W hrA ht1 hin (by simp [defersOf, hmk])) ?_
  rintro e a1 W1 ⟨T1, H1, hk1, ht1', hs1', hd1⟩
  cases e with
  | normal =>
    obtain ⟨hm1, hro1, hbody⟩ := hk1
    have hcond : ∀ e ∈ H1, e.wr ∨ ∀ a ∈ (⟨L, 0, .obj (.loop (rec .ready none)), []⟩ :: A : Hp), a.wr → a.blk ≠ e.blk := fun e he => (roSub_mem hro1 e he).imp id fun hm a ha hw => pAH a ha e hm (.inl hw)
    have hs2 : Sat w0 mu (⟨L, 0, .obj (.loop (rec .ready none)), []⟩ :: (A ++ H1)) W1 := frame_out hs1 hs1' hcond
    have hbeg := run_beginRound (P := P) hs2.objAt (by rw [hrec])
    refine ⟨_, hbeg, ?_⟩
    have hs3 : Sat w0 mu ((⟨L, 0, .obj (.loop { rec .ready none with state := .busy }), []⟩ :: A) ++ H1) (W1.putObj L (.loop { rec .ready none with state := .busy })) := hs2.setObj rfl
    have hl3 := Sat.objAt (R := A ++ H1) hs3
    have pAH3 := (List.pairwise_append.1 hs3.apart).2.2
    have hr3 : RoundOk (some L) (W1.putObj L (.loop { rec .ready none with state := .busy })) (muOf H1) := fun l hl' => by
      cases hl'
      exact ⟨(Array.getElem?_eq_some_iff.1 hl3).1, hLmu _ (fun e he _ => pAH3 ⟨L, 0, .obj (.loop { rec .ready none with state := .busy }), []⟩ (by simp) e he (.inl trivial)), _, hl3⟩
    refine wpIn_mono (evC_ok hG hmix body _ _ _ hpb hbody _ (muOf H1) a1 _ hr3 ht1' (frame_in hs3) hd1) ?_
    -- the record and what lies beside it, behind the body
    have back : ∀ (H3 : Hp) (W3 : World) (x' : X), subH H3 (Ho x') → Sat (W1.putObj L (.loop { rec .ready none with state := .busy })) (muOf H1) H3 W3 →
        Sat w0 mu (⟨L, 0, .obj (.loop { rec .ready none with state := .busy }), []⟩ :: (A ++ Ho x')) W3 := fun H3 W3 x' hsub hs4 => by
      refine frame_out hs3 (hs4.sub hsub) ?_
      intro e he
      rcases hro x x' e he with h | h
      · exact .inl h
      · refine .inr fun a ha hw => ?_
        rcases List.mem_cons.1 ha with rfl | ha
        · exact pAH ⟨L, 0, .obj (.loop (rec .ready none)), []⟩ (by simp) e h (.inl trivial)
        · exact pAH a (by simp [ha]) e h (.inl hw)
    have stop : ∀ (c : Code) (H3 : Hp) (W3 : World), (∃ x', Stop c x' ∧ subH H3 (Ho x')) → Sat (W1.putObj L (.loop { rec .ready none with state := .busy })) (muOf H1) H3 W3 →
        ∃ v w', (Instr.endRound L (some c)).run P W3 = .ok v w' ∧ ∃ v' H', (Ending.returned v) = .returned v' ∧ ((v' = .bool true ∧ ∃ x', I (k + 1) x' ∧ H' = ⟨L, 0, .obj (.loop (rec .ready none)), []⟩ :: (A ++ Ho x')) ∨
      (v' = .bool false ∧ ∃ x' c, Stop c x' ∧ H' = ⟨L, 0, .obj (.loop (rec .done (some c))), []⟩ :: (A ++ Ho x'))) ∧ Sat w0 mu H' w' ∧ marksOf H' = marksOf (⟨L, 0, .obj (.loop (rec .ready none)), []⟩ :: (A ++ Ho x)) := by
      rintro c H3 W3 ⟨x', hst, hsub⟩ hs4
      have hs5 := back H3 W3 x' hsub hs4
      refine ⟨_, _, run_endRound (P := P) (some c) hs5.objAt, .bool false, _, rfl, .inr ⟨rfl, x', c, hst, rfl⟩, ?_, by simp [marksOf, marks_append, hmk]⟩
      have := hs5.setObj (o' := .loop (rec .done (some c))) rfl
      rw [show (rec .done (some c)) = { ({ rec .ready none with state := .busy } : Loop) with state := if (some c).isNone then .ready else .done, pending := some c } by rw [hrec]; rfl] at this ⊢
      exact this
    rintro e a3 W3 ⟨T3, H3, hk3, _, hs4, _⟩
    cases e with
    | normal =>
      obtain ⟨x', hi, hsub⟩ := hk3
      have hs5 := back H3 W3 x' hsub hs4
      refine ⟨_, _, run_endRound (P := P) none hs5.objAt, .bool true, _, rfl, .inl ⟨rfl, x', hi, rfl⟩, ?_, by simp [marksOf, marks_append, hmk]⟩
      have := hs5.setObj (o' := .loop (rec .ready none)) rfl
      rw [show (rec .ready none) = { ({ rec .ready none with state := .busy } : Loop) with state := if (none : Option Code).isNone then .ready else .done, pending := none } by rw [hrec]; rfl] at this ⊢
      exact this
    | ret => exact stop .ret H3 W3 hk3 hs4
    | exit id => exact stop (.exit id) H3 W3 hk3 hs4
    | goto t => exact stop (.goto t) H3 W3 hk3 hs4
    | panic c => exact hk3.elim
    | outgrown => exact hk3.elim
  | _ => exact hk1.elim

/-- **A range over a function, not within a round.** Hc: what the iterator alone looks at; Hm: marks of earlier ranges; Ho x: all else, as the rounds leave it. -/
theorem rangeV {P : Program} {G : Gam} (hG : GamOk P G) (hmix : P.follows .mixedOrders = true) {pl : Plans} {n : Nat} {g : Operand} {ps : Array Tmp} {assign body : Code} {K : Exit → Tm → Hp → Prop} {T : Tm} {H : Hp} {gf : FuncId} {caps : List Value} {Hc Hm : Hp} {vs : List (List Value)}
    (hit : IterV P gf caps Hc vs) (hg : opd T g = some (.func (.func gf) #[] caps.toArray)) {X : Type} (Ho : X → Hp) (I : Nat → X → Prop) (Stop : Code → X → Prop) (x0 : X) (h0 : I 0 x0)
    (hH : subH H (Hc ++ (Hm ++ Ho x0))) (hmH : marksOf H = marksOf Hm) (hmc : marksOf Hc = []) (hmm : ∀ e ∈ Hm, e.wr) (hmk : ∀ x, marksOf (Ho x) = []) (hro : ∀ x y, ∀ e ∈ Ho y, e.wr ∨ e ∈ Ho x) (hps : ∀ args ∈ vs, args.length = ps.size) (hpa : plansOk pl assign = true) (hpb : plansOk pl body = true) (hpc : ∀ c x, Stop c x → plansOk pl c = true)
    (hb : ∀ l k x args, vs[k]? = some args → I k x → evC P G pl (some l) n assign (thenK (fun T' H' => marksOf H' = [] ∧ roSub H' (Ho x) ∧ evC P G pl (some l) n body (roundK Ho I Stop k) T' H') (fun _ _ _ => False)) (parT n T ps.toList args) (Ho x))
    (done : ∀ D x, fresh D (Hm ++ Ho x) → I vs.length x → K .normal T (⟨D, 0, .obj (.deferred (some [])), []⟩ :: (Hm ++ Ho x)))
    (stop : ∀ D c x, fresh D (Hm ++ Ho x) → Stop c x → evC P G pl none n c K T (⟨D, 0, .obj (.deferred (some [])), []⟩ :: (Hm ++ Ho x))) : WpV P none n (.rangeFunc g ps assign body) K T H := by
  intro w0 mu a w hr ht hs hd
  have hs0 : Sat w0 mu (Hc ++ (Hm ++ Ho x0)) w := hs.sub hH
  refine wpIn_rangeFunc ?_
  intro fn _
  obtain ⟨rec, hrec⟩ : ∃ rec : LoopState → Option Code → Loop, rec = fun st pe => { state := st, pending := pe, fn, tmps := a.tmps, params := ps, assign, body, defers := w.heap.size } := ⟨_, rfl⟩
  have hrec' : rec = fun st pe => { state := st, pending := pe, fn, tmps := a.tmps, params := ps, assign, body, defers := (rec .ready none).defers } := by rw [hrec]
  let W1 : World := (w.alloc (.deferred (some []))).alloc (.loop (rec .ready none))
  have hsz : (w.alloc (.deferred (some []))).heap.size = w.heap.size + 1 := by simp
  have hsD : Sat w0 mu (⟨w.heap.size, 0, .obj (.deferred (some [])), []⟩ :: (Hc ++ (Hm ++ Ho x0))) (w.alloc (.deferred (some []))) := by
    refine hs0.alloc rfl ?_
    unfold Ent.holds
    exact ⟨rfl, World.alloc_heap_new _ _, rfl⟩
  have hsL : Sat w0 mu (⟨w.heap.size + 1, 0, .obj (.loop (rec .ready none)), []⟩ :: ⟨w.heap.size, 0, .obj (.deferred (some [])), []⟩ :: (Hc ++ (Hm ++ Ho x0))) W1 := by
    refine hsD.alloc hsz.symm ?_
    unfold Ent.holds
    exact ⟨rfl, by have := World.alloc_heap_new (w.alloc (.deferred (some []))) (.loop (rec .ready none)); rwa [hsz] at this, rfl⟩
  let De : Ent := ⟨w.heap.size, 0, .obj (.deferred (some [])), []⟩
  let Ho' : X × Option Code → Hp := fun y => ⟨w.heap.size + 1, 0, .obj (.loop (rec (if y.2.isNone then .ready else .done) y.2)), []⟩ :: Ho y.1
  have hsC : Sat w0 mu ((De :: Hm) ++ (Hc ++ Ho' (x0, none))) W1 := by
    refine hsL.perm ?_
    show List.Perm (_ :: De :: (Hc ++ (Hm ++ Ho x0))) (De :: (Hm ++ (Hc ++ (_ :: Ho x0))))
    refine (List.Perm.swap _ _ _).trans (List.Perm.cons _ ?_)
    refine List.Perm.trans (List.Perm.cons _ ?_) (show List.Perm (_ :: (Hm ++ (Hc ++ Ho x0))) (Hm ++ (Hc ++ (_ :: Ho x0))) from ?_)
    · rw [← List.append_assoc, ← List.append_assoc]
      exact List.Perm.append_right _ List.perm_append_comm
    · rw [← List.append_assoc, ← List.append_assoc]
      exact (List.perm_middle (l₁ := Hm ++ Hc)).symm
  have hmarks : ∀ y, marksOf (Ho' y) = [] := fun y => by
    show marksOf ((⟨w.heap.size + 1, 0, .obj (.loop _), []⟩ : Ent) :: Ho y.1) = _
    simp [marksOf, hmk]
  have hcall := hit.2 (X × Option Code) Ho' (fun k y => I k y.1 ∧ y.2 = none) (fun y => ∃ c, y.2 = some c ∧ Stop c y.1) (w.heap.size + 1) (x0, none)
    (fun x y e he => by
      rcases List.mem_cons.1 he with rfl | he
      · exact .inl trivial
      · exact (hro x.1 y.1 e he).imp id fun h => List.mem_cons_of_mem _ h)
    hmarks ⟨h0, rfl⟩
    (fun k y args hk hi => by
      obtain ⟨x, j⟩ := y
      obtain ⟨hi, rfl⟩ := hi
      have hround := round_ok hG hmix (Ho := Ho) (I := I) (Stop := Stop) (a := a) (L := w.heap.size + 1) (A := []) hrec' ht (hps args (List.mem_of_getElem? hk)) hmk hro k x hpa hpb (hb (w.heap.size + 1) k x args hk hi)
      intro w0' mu' W hsW
      obtain ⟨fn', tmps', as', bd', h1, h2⟩ := hround w0' mu' W hsW
      refine ⟨fn', tmps', as', bd', h1, h2.mono ?_⟩
      rintro e W' ⟨v, H', rfl, hv, hs', hm'⟩
      refine ⟨v, H', rfl, ?_, hs', hm'⟩
      rcases hv with ⟨rfl, x', hi', rfl⟩ | ⟨rfl, x', c, hst, rfl⟩
      · exact .inl ⟨rfl, (x', none), ⟨hi', rfl⟩, rfl⟩
      · exact .inr ⟨rfl, (x', some c), ⟨c, rfl, hst⟩, rfl⟩)
  refine ⟨w.heap.size + 1, [{ target := .collected w.heap.size, args := #[] }], W1, { target := .fn (.func gf) caps.toArray, args := #[.func (.yield (w.heap.size + 1)) #[] #[]] }, W1, gf,
    #[.func (.yield (w.heap.size + 1)) #[] #[]] ++ caps.toArray, W1, ?_, ?_, fun _ _ => trivial, ?_, fun hh => by simp [Fr] at hh, ?_⟩
  · rw [show W1 = (w.alloc (.deferred (some []))).alloc (.loop (rec .ready none)) from rfl, hrec]; exact run_enterLoop_outer _ _ _ _ _
  · have hge := opd_eval ht hg
    have hce : ∀ v, a.eval (.const v) = v := fun _ => rfl
    simp [resolve, rangeCall, hge, hce, Deferred.ofValue]
  · simp [invoke, hit.1]
  · have hcl := hcall.2 W1 (muOf (Hc ++ Ho' (x0, none))) W1 (frame_in hsC)
    rw [show (Value.func (.yield (w.heap.size + 1)) #[] #[] :: caps).toArray = #[Value.func (.yield (w.heap.size + 1)) #[] #[]] ++ caps.toArray by rw [← Array.toList_inj]; simp] at hcl
    refine CallsIn.mono (F := Fr none) (n := 0) hcl ?_
    rintro e W2 ⟨v, H', rfl, ⟨⟨x, j⟩, hend, rfl⟩, hs2', _⟩
    have pAH := (List.pairwise_append.1 hsC.apart).2.2
    have hs2'' : Sat w0 mu ((De :: Hm) ++ Ho' (x, j)) W2 := frame_out hsC hs2' (fun e he => by
      rcases List.mem_cons.1 he with rfl | he
      · exact .inl trivial
      · rcases hro x0 x e he with h | h
        · exact .inl h
        · exact .inr fun a ha hw => pAH a ha e (List.mem_append_right _ (List.mem_cons_of_mem _ h)) (.inl hw))
    have hs2 : Sat w0 mu (⟨w.heap.size + 1, 0, .obj (.loop (rec (if j.isNone then .ready else .done) j)), []⟩ :: ((De :: Hm) ++ Ho x)) W2 := hs2''.perm List.perm_middle
    have hstate : ((rec (if j.isNone then .ready else .done) j)).state ≠ .busy := by rw [hrec]; cases j <;> simp
    have hend1 := run_endLoop (P := P) (r := rec (if j.isNone then .ready else .done) j) hs2.objAt hstate
    have hpend : (rec (if j.isNone then .ready else .done) j).pending = j := by rw [hrec]
    rw [hpend] at hend1
    refine ⟨j, _, hend1, ?_⟩
    have hs3 : ∀ o', Sat w0 mu (De :: (Hm ++ Ho x)) (W2.putObj (w.heap.size + 1) o') := fun o' => hs2.dropObj
    have hfr : fresh w.heap.size (Hm ++ Ho x) := by
      obtain ⟨p1, _⟩ := List.pairwise_cons.1 (hs3 (.deferred none)).apart
      exact fresh_of fun e he hh => p1 e he (.inl trivial) hh.symm
    have ht3 : TRel n T { a with defers := [{ target := .collected w.heap.size, args := #[] }] ++ a.defers } := ⟨ht.size, ht.get⟩
    have hd3 : ([{ target := .collected w.heap.size, args := #[] }] ++ a.defers : List Deferred) = defersOf (De :: (Hm ++ Ho x)) := by
      rw [hd]
      simp [defersOf, marksOf, De, marks_append, hmk, hmH]
    rcases hend with ⟨hi, hj⟩ | ⟨c, hj, hst⟩
    · dsimp only at hj
      subst hj
      exact ⟨T, _, done w.heap.size x hfr hi, ht3, hs3 _, hd3⟩
    · dsimp only at hj
      subst hj
      exact evC_ok hG hmix c K T _ (hpc c x hst) (stop w.heap.size c x hfr hst) w0 mu _ _ (RoundOk.none_ _ _) ht3 (hs3 _) hd3
end Go.Ev
