/- Texts of this claim, merged by program: E3. -/
import Derived.Test.YtpcjmmdgopihcaaGreatDoorZgAb
import Derived.IntWalk
import Derived.ProofKit
import Derived.Deep.Slices
import Derived.OpenShut
import Derived.ChangeBears
import Derived.ChangeStays
set_option linter.unusedSimpArgs false
set_option linter.unusedVariables false

namespace Go.Ev
attribute [push_cast] Bool.true_beq Bool.false_beq Bool.true_bne Bool.false_bne Bool.not_true Bool.not_false
open Go.RowKit
def muOf (H : Hp) (b : Nat) : Prop := ∃ e ∈ H, e.wr ∧ e.blk = b
section
variable {w0 w w' : World} {mu : Nat → Prop} {A H H' : Hp}
theorem frame_in (h : Sat w0 mu (A ++ H) w) : Sat w (muOf H) H w :=
 ⟨rfl, rfl, rfl, Nat.le_refl _, fun _ _ _ => rfl, fun e he => h.ents e (List.mem_append_right A he), fun e he hw => .inl ⟨e, he, hw, rfl⟩, (List.pairwise_append.1 h.apart).2.1⟩
theorem frame_out (h : Sat w0 mu (A ++ H) w) (h' : Sat w (muOf H) H' w') (hro : ∀ e ∈ H', e.wr ∨ ∀ a ∈ A, a.wr → a.blk ≠ e.blk) : Sat w0 mu (A ++ H') w' := by
 obtain ⟨pA, pH, pAH⟩ := List.pairwise_append.1 h.apart
 have hmu : ∀ b, muOf H b → mu b ∨ w0.heap.size ≤ b := by
  rintro b ⟨e, he, hw, rfl⟩
  exact h.own e (List.mem_append_right A he) hw
 have hA : ∀ a ∈ A, ¬ muOf H a.blk := by
  rintro a ha ⟨e, he, hw, hb⟩
  exact pAH a ha e he (.inr hw) hb.symm
 refine ⟨h'.os.trans h.os, h'.tape.trans h.tape, h'.output.trans h.output, Nat.le_trans h.size h'.size, ?_, ?_, ?_, List.pairwise_append.2 ⟨pA, h'.apart, ?_⟩⟩
 · intro b hb hm
   rw [h'.old b (Nat.lt_of_lt_of_le hb h.size) (fun hh => by rcases hmu b hh with h1 | h1; exact hm h1; omega)]
   exact h.old b hb hm
 · intro e he
   rcases List.mem_append.1 he with he | he
   · have hh := h.ents e (List.mem_append_left H he)
     exact Ent.holds_of hh (h'.old _ (Ent.lt hh) (hA e he))
   · exact h'.ents e he
 · intro e he hw
   rcases List.mem_append.1 he with he | he
   · exact h.own e (List.mem_append_left H he) hw
   · rcases h'.own e he hw with h1 | h1
     · exact hmu _ h1
     · exact .inr (Nat.le_trans h.size h1)
 · intro a ha e he hw
   have halt := Ent.lt (h.ents a (List.mem_append_left H ha))
   by_cases hew : e.wr
   · rcases h'.own e he hew with ⟨x, hx, hxw, hxb⟩ | h1
     · rw [← hxb]; exact pAH a ha x hx (.inr hxw)
     · omega
   · exact ((hro e he).resolve_left hew) a ha (hw.resolve_right hew)
theorem Sat.perm (h : Sat w0 mu H w) (hp : H.Perm H') : Sat w0 mu H' w :=
 ⟨h.os, h.tape, h.output, h.size, h.old, fun e he => h.ents e (hp.mem_iff.2 he), fun e he => h.own e (hp.mem_iff.2 he),
  (hp.pairwise_iff (fun {x y} hxy hw => (hxy hw.symm).symm)).1 h.apart⟩
theorem Sat.setObj {L : Nat} {o o' : Obj} {R : Hp} (h : Sat w0 mu (⟨L, 0, .obj o, []⟩ :: R) w) (ho : o'.isCells = false) : Sat w0 mu (⟨L, 0, .obj o', []⟩ :: R) (w.putObj L o') := by
 obtain ⟨p1, p2⟩ := List.pairwise_cons.1 h.apart
 have hh := h.ents _ (List.mem_cons_self ..)
 have hlt := Ent.lt hh
 have hw : Ent.wr ⟨L, 0, .obj o, []⟩ := trivial
 have ht : Turn L w (w.putObj L o') := ⟨rfl, rfl, rfl, by simp [World.putObj], fun j hj hne => by simp [World.putObj, Array.getElem?_setIfInBounds_ne (Ne.symm hne)]⟩
 refine h.front ht (h.own _ (List.mem_cons_self ..) hw) rfl ?_ (fun x hx => ⟨List.mem_cons_of_mem _ hx, fun e => p1 x hx (.inl hw) e.symm⟩) p2
 unfold Ent.holds
 exact ⟨rfl, World.putObj_heap_same hlt, ho⟩
theorem Sat.dropObj {L : Nat} {o o' : Obj} {R : Hp} (h : Sat w0 mu (⟨L, 0, .obj o, []⟩ :: R) w) : Sat w0 mu R (w.putObj L o') := by
 obtain ⟨p1, p2⟩ := List.pairwise_cons.1 h.apart
 have hw : Ent.wr ⟨L, 0, .obj o, []⟩ := trivial
 have ht : Turn L w (w.putObj L o') := ⟨rfl, rfl, rfl, by simp [World.putObj], fun j hj hne => by simp [World.putObj, Array.getElem?_setIfInBounds_ne (Ne.symm hne)]⟩
 exact h.turn_drop ht (h.own _ (List.mem_cons_self ..) hw) (List.sublist_cons_self ..) fun x hx e => p1 x hx (.inl hw) e.symm
theorem Sat.objAt {L : Nat} {o : Obj} {R : Hp} (h : Sat w0 mu (⟨L, 0, .obj o, []⟩ :: R) w) : w.heap[L]? = some o := (h.ents _ (List.mem_cons_self ..)).2.1
end
theorem YieldV.frame {P : Program} {l : Nat} {args : List Value} {A H : Hp} {K K' : Value → Hp → Prop} (hy : YieldV P l args H K) (hro : ∀ v H', K v H' → ∀ e ∈ H', e.wr ∨ e ∈ H) (hk : ∀ v H', K v H' → K' v (A ++ H')) : YieldV P l args (A ++ H) K' := by
 intro w0 mu w hs
 obtain ⟨fn, tmps, assign, body, h1, h2⟩ := hy w (muOf H) w (frame_in hs)
 refine ⟨fn, tmps, assign, body, h1, h2.mono ?_⟩
 rintro e w' ⟨v, H', rfl, hK, hs', hm⟩
 have pAH := (List.pairwise_append.1 hs.apart).2.2
 exact ⟨v, A ++ H', rfl, hk v H' hK, frame_out hs hs' (fun e he => (hro v H' hK e he).imp id fun hm a ha hw => pAH a ha e hm (.inl hw)), by rw [marks_append, marks_append, hm]⟩
def IterV (P : Program) (gf : FuncId) (caps : List Value) (Hc : Hp) (vs : List (List Value)) : Prop :=
 (∀ (as : Array Value) (w : World), (callFunc gf as).run P w = .ok (.enter gf as) w) ∧
 ∀ (X : Type) (Ho : X → Hp) (I : Nat → X → Prop) (St : X → Prop) (l : Nat) (x0 : X), (∀ x y, ∀ e ∈ Ho y, e.wr ∨ e ∈ Ho x) → (∀ x, marksOf (Ho x) = []) → I 0 x0 →
  (∀ k x args, vs[k]? = some args → I k x → YieldV P l args (Ho x) fun v H' => (v = .bool true ∧ ∃ x', I (k + 1) x' ∧ H' = Ho x') ∨ (v = .bool false ∧ ∃ x', St x' ∧ H' = Ho x')) →
  CallsV P gf (.func (.yield l) #[] #[] :: caps) (Hc ++ Ho x0) fun _ H' => ∃ x, (I vs.length x ∨ St x) ∧ H' = Ho x
def parT (n : Nat) (T : Tm) : List Tmp → List Value → Tm
 | p :: ps, v :: vs => parT n (putT n T (some p) v) ps vs
 | _, _ => T
theorem parT_ok {n : Nat} : ∀ (ps : List Tmp) (vs : List Value) (T : Tm) (a : Act), TRel n T a →
  TRel n (parT n T ps vs) { tmps := (ps.zip vs).foldl (fun t (x : Tmp × Value) => t.setIfInBounds x.1 x.2) a.tmps, defers := [] }
 | [], vs, T, a, h => ⟨h.size, h.get⟩
 | p :: ps, [], T, a, h => ⟨h.size, h.get⟩
 | p :: ps, v :: vs, T, a, h => parT_ok ps vs (putT n T (some p) v) (a.put (some p) v) (h.put (some p) v)
def roSub : Hp → Hp → Prop
 | [], _ => True
 | e :: r, H => (e.wr ∨ e ∈ H) ∧ roSub r H
theorem roSub_mem {H : Hp} : ∀ {L : Hp}, roSub L H → ∀ e ∈ L, e.wr ∨ e ∈ H
 | [], _, e, he => by cases he
 | x :: r, h, e, he => by
   rcases List.mem_cons.1 he with rfl | he
   · exact h.1
   · exact roSub_mem h.2 e he
theorem roSub_of {H : Hp} : ∀ {L : Hp}, (∀ e ∈ L, e.wr ∨ e ∈ H) → roSub L H
 | [], _ => trivial
 | x :: r, h => ⟨h x (by simp), roSub_of fun e he => h e (by simp [he])⟩
theorem roSub_self (H : Hp) : roSub H H := roSub_of fun _ he => .inr he
def roundK {X : Type} (Ho : X → Hp) (I : Nat → X → Prop) (Stop : Code → X → Prop) (k : Nat) : Exit → Tm → Hp → Prop
 | .normal, _, H => ∃ x, I (k + 1) x ∧ subH H (Ho x)
 | .ret, _, H => ∃ x, Stop .ret x ∧ subH H (Ho x)
 | .exit id, _, H => ∃ x, Stop (.exit id) x ∧ subH H (Ho x)
 | .goto t, _, H => ∃ x, Stop (.goto t) x ∧ subH H (Ho x)
 | _, _, _ => False
theorem round_ok {P : Program} {G : Gam} (hG : GamOk P G) (hmix : P.follows .mixedOrders = true) {pl : Plans} {n : Nat} {ps : Array Tmp} {assign body : Code} {T : Tm} {args : List Value} {X : Type} {Ho : X → Hp} {I : Nat → X → Prop} {Stop : Code → X → Prop} {a : Act} {L : Nat} {A : Hp} {rec : LoopState → Option Code → Loop} {fn : FuncId}
  (hrec : rec = fun st pe => { state := st, pending := pe, fn, tmps := a.tmps, params := ps, assign, body, defers := (rec .ready none).defers }) (ht : TRel n T a) (hps : args.length = ps.size)
  (hmk : ∀ x, marksOf (Ho x) = []) (hro : ∀ x y, ∀ e ∈ Ho y, e.wr ∨ e ∈ Ho x) (k : Nat) (x : X) (hpa : plansOk pl assign = true) (hpb : plansOk pl body = true)
  (hb : evC P G pl (some L) n assign (thenK (fun T' H' => marksOf H' = [] ∧ roSub H' (Ho x) ∧ evC P G pl (some L) n body (roundK Ho I Stop k) T' H') (fun _ _ _ => False)) (parT n T ps.toList args) (Ho x)) :
  YieldV P L args (⟨L, 0, .obj (.loop (rec .ready none)), []⟩ :: (A ++ Ho x)) fun v H' => (v = .bool true ∧ ∃ x', I (k + 1) x' ∧ H' = ⟨L, 0, .obj (.loop (rec .ready none)), []⟩ :: (A ++ Ho x')) ∨
   (v = .bool false ∧ ∃ x' c, Stop c x' ∧ H' = ⟨L, 0, .obj (.loop (rec .done (some c))), []⟩ :: (A ++ Ho x')) := by
 intro w0 mu W hs
 have hl := hs.objAt
 have hpar : args.toArray.size = (rec .ready none).params.size := by rw [hrec]; simpa using hps
 refine ⟨_, _, _, _, run_yield (P := P) (args := args.toArray) hl hpar, ?_⟩
 have e1 : (rec .ready none).fn = fn := by rw [hrec]
 have e2 : (rec .ready none).params = ps := by rw [hrec]
 have e3 : (rec .ready none).tmps = a.tmps := by rw [hrec]
 have e4 : (rec .ready none).assign = assign := by rw [hrec]
 have e5 : (rec .ready none).body = body := by rw [hrec]
 rw [e1, e2, e3, e4, e5]
 refine roundIn_of_wpIn trivial ?_
 have hfold : (ps.zip args.toArray).foldl (fun tmps (x : Tmp × Value) => tmps.setIfInBounds x.1 x.2) a.tmps = (ps.toList.zip args).foldl (fun t (x : Tmp × Value) => t.setIfInBounds x.1 x.2) a.tmps := by
  rw [← Array.foldl_toList, Array.toList_zip]
 have hfold' : (ps.zip args.toArray).foldl (fun tmps (t, a) => tmps.setIfInBounds t a) a.tmps = (ps.toList.zip args).foldl (fun t (x : Tmp × Value) => t.setIfInBounds x.1 x.2) a.tmps := hfold
 rw [hfold']
 have ht1 := parT_ok ps.toList args T a ht
 have hs1 : Sat w0 mu ((⟨L, 0, .obj (.loop (rec .ready none)), []⟩ :: A) ++ Ho x) W := hs
 have hin := frame_in hs1
 have pAH := (List.pairwise_append.1 hs1.apart).2.2
 have hLlt : L < W.heap.size := (Array.getElem?_eq_some_iff.1 hl).1
 have hLmu : ∀ H' : Hp, (∀ e ∈ H', e.wr → L ≠ e.blk) → ¬ muOf H' L := by
  rintro H' hh ⟨e, he, hw, hb⟩
  exact hh e he hw hb.symm
 have hrA : RoundOk (some L) W (muOf (Ho x)) := fun l hl' => by
  cases hl'
  exact ⟨hLlt, hLmu _ (fun e he _ => pAH ⟨L, 0, .obj (.loop (rec .ready none)), []⟩ (by simp) e he (.inl trivial)), _, hl⟩
 refine wpIn_mono (evC_ok hG hmix assign _ _ _ hpa hb W (muOf (Ho x)) _ W hrA ht1 hin (by simp [defersOf, hmk])) ?_
 rintro e a1 W1 ⟨T1, H1, hk1, ht1', hs1', hd1⟩
 cases e with
 | normal =>
   obtain ⟨hm1, hro1, hbody⟩ := hk1
   have hcond : ∀ e ∈ H1, e.wr ∨ ∀ a ∈ (⟨L, 0, .obj (.loop (rec .ready none)), []⟩ :: A : Hp), a.wr → a.blk ≠ e.blk := fun e he => (roSub_mem hro1 e he).imp id fun hm a ha hw => pAH a ha e hm (.inl hw)
   have hs2 : Sat w0 mu (⟨L, 0, .obj (.loop (rec .ready none)), []⟩ :: (A ++ H1)) W1 := frame_out hs1 hs1' hcond
   have hbeg := run_beginRound (P := P) hs2.objAt (by rw [hrec])
   refine ⟨_, hbeg, ?_⟩
   have hs3 : Sat w0 mu ((⟨L, 0, .obj (.loop { rec .ready none with state := .busy }), []⟩ :: A) ++ H1) (W1.putObj L (.loop { rec .ready none with state := .busy })) := hs2.setObj rfl
   have hl3 := Sat.objAt (R := A ++ H1) hs3
   have pAH3 := (List.pairwise_append.1 hs3.apart).2.2
   have hr3 : RoundOk (some L) (W1.putObj L (.loop { rec .ready none with state := .busy })) (muOf H1) := fun l hl' => by
    cases hl'
    exact ⟨(Array.getElem?_eq_some_iff.1 hl3).1, hLmu _ (fun e he _ => pAH3 ⟨L, 0, .obj (.loop { rec .ready none with state := .busy }), []⟩ (by simp) e he (.inl trivial)), _, hl3⟩
   refine wpIn_mono (evC_ok hG hmix body _ _ _ hpb hbody _ (muOf H1) a1 _ hr3 ht1' (frame_in hs3) hd1) ?_
   have back : ∀ (H3 : Hp) (W3 : World) (x' : X), subH H3 (Ho x') → Sat (W1.putObj L (.loop { rec .ready none with state := .busy })) (muOf H1) H3 W3 →
     Sat w0 mu (⟨L, 0, .obj (.loop { rec .ready none with state := .busy }), []⟩ :: (A ++ Ho x')) W3 := fun H3 W3 x' hsub hs4 => by
    refine frame_out hs3 (hs4.sub hsub) ?_
    intro e he
    rcases hro x x' e he with h | h
    · exact .inl h
    · refine .inr fun a ha hw => ?_
      rcases List.mem_cons.1 ha with rfl | ha
      · exact pAH ⟨L, 0, .obj (.loop (rec .ready none)), []⟩ (by simp) e h (.inl trivial)
      · exact pAH a (by simp [ha]) e h (.inl hw)
   have stop : ∀ (c : Code) (H3 : Hp) (W3 : World), (∃ x', Stop c x' ∧ subH H3 (Ho x')) → Sat (W1.putObj L (.loop { rec .ready none with state := .busy })) (muOf H1) H3 W3 →
     ∃ v w', (Instr.endRound L (some c)).run P W3 = .ok v w' ∧ ∃ v' H', (Ending.returned v) = .returned v' ∧ ((v' = .bool true ∧ ∃ x', I (k + 1) x' ∧ H' = ⟨L, 0, .obj (.loop (rec .ready none)), []⟩ :: (A ++ Ho x')) ∨
    (v' = .bool false ∧ ∃ x' c, Stop c x' ∧ H' = ⟨L, 0, .obj (.loop (rec .done (some c))), []⟩ :: (A ++ Ho x'))) ∧ Sat w0 mu H' w' ∧ marksOf H' = marksOf (⟨L, 0, .obj (.loop (rec .ready none)), []⟩ :: (A ++ Ho x)) := by
    rintro c H3 W3 ⟨x', hst, hsub⟩ hs4
    have hs5 := back H3 W3 x' hsub hs4
    refine ⟨_, _, run_endRound (P := P) (some c) hs5.objAt, .bool false, _, rfl, .inr ⟨rfl, x', c, hst, rfl⟩, ?_, by simp [marksOf, marks_append, hmk]⟩
    have := hs5.setObj (o' := .loop (rec .done (some c))) rfl
    rw [show (rec .done (some c)) = { ({ rec .ready none with state := .busy } : Loop) with state := if (some c).isNone then .ready else .done, pending := some c } by rw [hrec]; rfl] at this ⊢
    exact this
   rintro e a3 W3 ⟨T3, H3, hk3, _, hs4, _⟩
   cases e with
   | normal =>
     obtain ⟨x', hi, hsub⟩ := hk3
     have hs5 := back H3 W3 x' hsub hs4
     refine ⟨_, _, run_endRound (P := P) none hs5.objAt, .bool true, _, rfl, .inl ⟨rfl, x', hi, rfl⟩, ?_, by simp [marksOf, marks_append, hmk]⟩
     have := hs5.setObj (o' := .loop (rec .ready none)) rfl
     rw [show (rec .ready none) = { ({ rec .ready none with state := .busy } : Loop) with state := if (none : Option Code).isNone then .ready else .done, pending := none } by rw [hrec]; rfl] at this ⊢
     exact this
   | ret => exact stop .ret H3 W3 hk3 hs4
   | exit id => exact stop (.exit id) H3 W3 hk3 hs4
   | goto t => exact stop (.goto t) H3 W3 hk3 hs4
   | panic c => exact hk3.elim
   | outgrown => exact hk3.elim
 | _ => exact hk1.elim
theorem rangeV {P : Program} {G : Gam} (hG : GamOk P G) (hmix : P.follows .mixedOrders = true) {pl : Plans} {n : Nat} {g : Operand} {ps : Array Tmp} {assign body : Code} {K : Exit → Tm → Hp → Prop} {T : Tm} {H : Hp} {gf : FuncId} {caps : List Value} {Hc Hm : Hp} {vs : List (List Value)}
  (hit : IterV P gf caps Hc vs) (hg : opd T g = some (.func (.func gf) #[] caps.toArray)) {X : Type} (Ho : X → Hp) (I : Nat → X → Prop) (Stop : Code → X → Prop) (x0 : X) (h0 : I 0 x0)
  (hH : subH H (Hc ++ (Hm ++ Ho x0))) (hmH : marksOf H = marksOf Hm) (hmc : marksOf Hc = []) (hmm : ∀ e ∈ Hm, e.wr) (hmk : ∀ x, marksOf (Ho x) = []) (hro : ∀ x y, ∀ e ∈ Ho y, e.wr ∨ e ∈ Ho x) (hps : ∀ args ∈ vs, args.length = ps.size) (hpa : plansOk pl assign = true) (hpb : plansOk pl body = true) (hpc : ∀ c x, Stop c x → plansOk pl c = true)
  (hb : ∀ l k x args, vs[k]? = some args → I k x → evC P G pl (some l) n assign (thenK (fun T' H' => marksOf H' = [] ∧ roSub H' (Ho x) ∧ evC P G pl (some l) n body (roundK Ho I Stop k) T' H') (fun _ _ _ => False)) (parT n T ps.toList args) (Ho x))
  (done : ∀ D x, fresh D (Hm ++ Ho x) → I vs.length x → K .normal T (⟨D, 0, .obj (.deferred (some [])), []⟩ :: (Hm ++ Ho x)))
  (stop : ∀ D c x, fresh D (Hm ++ Ho x) → Stop c x → evC P G pl none n c K T (⟨D, 0, .obj (.deferred (some [])), []⟩ :: (Hm ++ Ho x))) : WpV P none n (.rangeFunc g ps assign body) K T H := by
 intro w0 mu a w hr ht hs hd
 have hs0 : Sat w0 mu (Hc ++ (Hm ++ Ho x0)) w := hs.sub hH
 refine wpIn_rangeFunc ?_
 intro fn _
 obtain ⟨rec, hrec⟩ : ∃ rec : LoopState → Option Code → Loop, rec = fun st pe => { state := st, pending := pe, fn, tmps := a.tmps, params := ps, assign, body, defers := w.heap.size } := ⟨_, rfl⟩
 have hrec' : rec = fun st pe => { state := st, pending := pe, fn, tmps := a.tmps, params := ps, assign, body, defers := (rec .ready none).defers } := by rw [hrec]
 let W1 : World := (w.alloc (.deferred (some []))).alloc (.loop (rec .ready none))
 have hsz : (w.alloc (.deferred (some []))).heap.size = w.heap.size + 1 := by simp
 have hsD : Sat w0 mu (⟨w.heap.size, 0, .obj (.deferred (some [])), []⟩ :: (Hc ++ (Hm ++ Ho x0))) (w.alloc (.deferred (some []))) := by
  refine hs0.alloc rfl ?_
  unfold Ent.holds
  exact ⟨rfl, World.alloc_heap_new _ _, rfl⟩
 have hsL : Sat w0 mu (⟨w.heap.size + 1, 0, .obj (.loop (rec .ready none)), []⟩ :: ⟨w.heap.size, 0, .obj (.deferred (some [])), []⟩ :: (Hc ++ (Hm ++ Ho x0))) W1 := by
  refine hsD.alloc hsz.symm ?_
  unfold Ent.holds
  exact ⟨rfl, by have := World.alloc_heap_new (w.alloc (.deferred (some []))) (.loop (rec .ready none)); rwa [hsz] at this, rfl⟩
 let De : Ent := ⟨w.heap.size, 0, .obj (.deferred (some [])), []⟩
 let Ho' : X × Option Code → Hp := fun y => ⟨w.heap.size + 1, 0, .obj (.loop (rec (if y.2.isNone then .ready else .done) y.2)), []⟩ :: Ho y.1
 have hsC : Sat w0 mu ((De :: Hm) ++ (Hc ++ Ho' (x0, none))) W1 := by
  refine hsL.perm ?_
  show List.Perm (_ :: De :: (Hc ++ (Hm ++ Ho x0))) (De :: (Hm ++ (Hc ++ (_ :: Ho x0))))
  refine (List.Perm.swap _ _ _).trans (List.Perm.cons _ ?_)
  refine List.Perm.trans (List.Perm.cons _ ?_) (show List.Perm (_ :: (Hm ++ (Hc ++ Ho x0))) (Hm ++ (Hc ++ (_ :: Ho x0))) from ?_)
  · rw [← List.append_assoc, ← List.append_assoc]
    exact List.Perm.append_right _ List.perm_append_comm
  · rw [← List.append_assoc, ← List.append_assoc]
    exact (List.perm_middle (l₁ := Hm ++ Hc)).symm
 have hmarks : ∀ y, marksOf (Ho' y) = [] := fun y => by
  show marksOf ((⟨w.heap.size + 1, 0, .obj (.loop _), []⟩ : Ent) :: Ho y.1) = _
  simp [marksOf, hmk]
 have hcall := hit.2 (X × Option Code) Ho' (fun k y => I k y.1 ∧ y.2 = none) (fun y => ∃ c, y.2 = some c ∧ Stop c y.1) (w.heap.size + 1) (x0, none)
  (fun x y e he => by
   rcases List.mem_cons.1 he with rfl | he
   · exact .inl trivial
   · exact (hro x.1 y.1 e he).imp id fun h => List.mem_cons_of_mem _ h)
  hmarks ⟨h0, rfl⟩
  (fun k y args hk hi => by
   obtain ⟨x, j⟩ := y
   obtain ⟨hi, rfl⟩ := hi
   have hround := round_ok hG hmix (Ho := Ho) (I := I) (Stop := Stop) (a := a) (L := w.heap.size + 1) (A := []) hrec' ht (hps args (List.mem_of_getElem? hk)) hmk hro k x hpa hpb (hb (w.heap.size + 1) k x args hk hi)
   intro w0' mu' W hsW
   obtain ⟨fn', tmps', as', bd', h1, h2⟩ := hround w0' mu' W hsW
   refine ⟨fn', tmps', as', bd', h1, h2.mono ?_⟩
   rintro e W' ⟨v, H', rfl, hv, hs', hm'⟩
   refine ⟨v, H', rfl, ?_, hs', hm'⟩
   rcases hv with ⟨rfl, x', hi', rfl⟩ | ⟨rfl, x', c, hst, rfl⟩
   · exact .inl ⟨rfl, (x', none), ⟨hi', rfl⟩, rfl⟩
   · exact .inr ⟨rfl, (x', some c), ⟨c, rfl, hst⟩, rfl⟩)
 refine ⟨w.heap.size + 1, [{ target := .collected w.heap.size, args := #[] }], W1, { target := .fn (.func gf) caps.toArray, args := #[.func (.yield (w.heap.size + 1)) #[] #[]] }, W1, gf,
  #[.func (.yield (w.heap.size + 1)) #[] #[]] ++ caps.toArray, W1, ?_, ?_, fun _ _ => trivial, ?_, fun hh => by simp [Fr] at hh, ?_⟩
 · rw [show W1 = (w.alloc (.deferred (some []))).alloc (.loop (rec .ready none)) from rfl, hrec]; exact run_enterLoop_outer _ _ _ _ _
 · have hge := opd_eval ht hg
   have hce : ∀ v, a.eval (.const v) = v := fun _ => rfl
   simp [resolve, rangeCall, hge, hce, Deferred.ofValue]
 · simp [invoke, hit.1]
 · have hcl := hcall.2 W1 (muOf (Hc ++ Ho' (x0, none))) W1 (frame_in hsC)
   rw [show (Value.func (.yield (w.heap.size + 1)) #[] #[] :: caps).toArray = #[Value.func (.yield (w.heap.size + 1)) #[] #[]] ++ caps.toArray by rw [← Array.toList_inj]; simp] at hcl
   refine CallsIn.mono (F := Fr none) (n := 0) hcl ?_
   rintro e W2 ⟨v, H', rfl, ⟨⟨x, j⟩, hend, rfl⟩, hs2', _⟩
   have pAH := (List.pairwise_append.1 hsC.apart).2.2
   have hs2'' : Sat w0 mu ((De :: Hm) ++ Ho' (x, j)) W2 := frame_out hsC hs2' (fun e he => by
    rcases List.mem_cons.1 he with rfl | he
    · exact .inl trivial
    · rcases hro x0 x e he with h | h
      · exact .inl h
      · exact .inr fun a ha hw => pAH a ha e (List.mem_append_right _ (List.mem_cons_of_mem _ h)) (.inl hw))
   have hs2 : Sat w0 mu (⟨w.heap.size + 1, 0, .obj (.loop (rec (if j.isNone then .ready else .done) j)), []⟩ :: ((De :: Hm) ++ Ho x)) W2 := hs2''.perm List.perm_middle
   have hstate : ((rec (if j.isNone then .ready else .done) j)).state ≠ .busy := by rw [hrec]; cases j <;> simp
   have hend1 := run_endLoop (P := P) (r := rec (if j.isNone then .ready else .done) j) hs2.objAt hstate
   have hpend : (rec (if j.isNone then .ready else .done) j).pending = j := by rw [hrec]
   rw [hpend] at hend1
   refine ⟨j, _, hend1, ?_⟩
   have hs3 : ∀ o', Sat w0 mu (De :: (Hm ++ Ho x)) (W2.putObj (w.heap.size + 1) o') := fun o' => hs2.dropObj
   have hfr : fresh w.heap.size (Hm ++ Ho x) := by
    obtain ⟨p1, _⟩ := List.pairwise_cons.1 (hs3 (.deferred none)).apart
    exact fresh_of fun e he hh => p1 e he (.inl trivial) hh.symm
   have ht3 : TRel n T { a with defers := [{ target := .collected w.heap.size, args := #[] }] ++ a.defers } := ⟨ht.size, ht.get⟩
   have hd3 : ([{ target := .collected w.heap.size, args := #[] }] ++ a.defers : List Deferred) = defersOf (De :: (Hm ++ Ho x)) := by
    rw [hd]
    simp [defersOf, marksOf, De, marks_append, hmk, hmH]
   rcases hend with ⟨hi, hj⟩ | ⟨c, hj, hst⟩
   · dsimp only at hj
     subst hj
     exact ⟨T, _, done w.heap.size x hfr hi, ht3, hs3 _, hd3⟩
   · dsimp only at hj
     subst hj
     exact evC_ok hG hmix c K T _ (hpc c x hst) (stop w.heap.size c x hfr hst) w0 mu _ _ (RoundOk.none_ _ _) ht3 (hs3 _) hd3
end Go.Ev
namespace Go.Ev
open Go.RowKit
theorem ox {α : Type} (a : α) : ∃ b, b = a := ⟨a, rfl⟩
noncomputable def hid {α : Type} (a : α) : α := Classical.choose (ox a)
theorem hid_eq {α : Type} (a : α) : hid a = a := Classical.choose_spec (ox a)
noncomputable def oOps (P : Program) (G : Gam) (n : Nat) (ops : List Oper) (K : Tm → Hp → Prop) : List Oper → Tm → Hp → Prop := hid (evOps P G n ops K)
noncomputable def oD (P : Program) (G : Gam) (n : Nat) (ops : List Oper) (K : Tm → Hp → Prop) : List (Nat × Nat) → Tm → Hp → Prop := hid (evD P G n ops K)
noncomputable def oC (P : Program) (G : Gam) (pl : Plans) (r : Option Nat) (n : Nat) : Code → (Exit → Tm → Hp → Prop) → Tm → Hp → Prop := hid (evC P G pl r n)
noncomputable def oUn (P : Program) (G : Gam) (pl : Plans) (r : Option Nat) (n : Nat) (c : Code) (K : Exit → Tm → Hp → Prop) : Nat → Tm → Hp → Prop := hid (evUn P G pl r n c K)
theorem oOps_eq (P : Program) (G : Gam) (n : Nat) (ops : List Oper) (K : Tm → Hp → Prop) : oOps P G n ops K = evOps P G n ops K := hid_eq _
theorem oD_eq (P : Program) (G : Gam) (n : Nat) (ops : List Oper) (K : Tm → Hp → Prop) : oD P G n ops K = evD P G n ops K := hid_eq _
theorem oC_eq (P : Program) (G : Gam) (pl : Plans) (r : Option Nat) (n : Nat) : oC P G pl r n = evC P G pl r n := hid_eq _
theorem oUn_eq (P : Program) (G : Gam) (pl : Plans) (r : Option Nat) (n : Nat) (c : Code) (K : Exit → Tm → Hp → Prop) : oUn P G pl r n c K = evUn P G pl r n c K := hid_eq _
def selB (b : Bool) (A B : Prop) : Prop := match b with | true => A | false => B
theorem selB_arms (b : Bool) (A B : Prop) : ((b = true → A) ∧ (b = false → B)) = selB b A B := by cases b <;> simp [selB]
theorem sel_ite (b : Bool) (A B : Prop) : (match b with | true => A | false => B) = (if b = true then A else B) := by cases b <;> simp
def ogd (ops : List Oper) (T : Tm) (g : Option (Nat × Bool)) (A B : Prop) : Prop :=
 match g with
 | none => A
 | some (j, want) => match ops[j]? with
   | some oj => match oj.dst with
     | some t => match getT T t with
       | some (.bool b) => match want with | true => selB b A B | false => selB b B A
       | some (.tuple _) => B
       | _ => False
     | none => False
   | none => False
theorem gd_eq (ops : List Oper) (T : Tm) (g : Option (Nat × Bool)) (A B : Prop) : gd ops T g A B = ogd ops T g A B := by
 unfold gd ogd
 rcases g with _ | ⟨j, want⟩
 · rfl
 dsimp only
 cases ops[j]? with
 | none => rfl
 | some oj =>
   dsimp only
   cases oj.dst with
   | none => rfl
   | some t =>
     dsimp only
     cases getT T t with
     | none => rfl
     | some v =>
       cases v <;> try rfl
       rename_i b
       cases b <;> cases want <;> simp [selB]
section
variable (P : Program) (G : Gam) (pl : Plans) (r : Option Nat) (n : Nat) (ops : List Oper) (K : Tm → Hp → Prop) (L : Exit → Tm → Hp → Prop) (T : Tm) (H : Hp)
theorem oOps_nil : oOps P G n ops K [] T H = K T H := by rw [oOps_eq, evOps]
noncomputable def oKont (d : Option Nat) (s : List Oper) (v : Value) (H' : Hp) : Prop := oOps P G n ops K s (putT n T d v) H'
noncomputable def dKont (d : Option Nat) (s : List (Nat × Nat)) (v : Value) (H' : Hp) : Prop := oD P G n ops K s (putT n T d v) H'
noncomputable def d2Kont (d : Option Nat) (s : List (Nat × Nat)) (v : Value) (H' : Hp) : Prop := subH H' H ∧ oD P G n ops K s (putT n T d v) H'
noncomputable def tKont (d : Option Nat) (s : List (Nat × Nat)) (v : Value) : Prop := oD P G n ops K s (putT n T d v) H
theorem oOps_cons (o : Oper) (s : List Oper) : oOps P G n ops K (o :: s) T H = ogd ops T o.guard (evOp P G T H o.op (oKont P G n ops K T o.dst s)) (oOps P G n ops K s (putT n T o.dst undef) H) := by
 unfold oKont
 simp only [oOps_eq, evOps, gd_eq]
theorem oD_nil : oD P G n ops K [] T H = K T H := by rw [oD_eq, evD]
theorem oD_take (i : Nat) (s : List (Nat × Nat)) : oD P G n ops K ((i, 0) :: s) T H = (match ops[i]? with
  | some o => ogd ops T o.guard (evTake P G T H o.op (tKont P G n ops K T H o.dst s)) (oD P G n ops K s (putT n T o.dst undef) H)
  | none => False) := by unfold tKont; simp only [oD_eq, evD, evOne, gd_eq]; rfl
theorem oD_one (i : Nat) (s : List (Nat × Nat)) : oD P G n ops K ((i, 1) :: s) T H = (match ops[i]? with
  | some o => ogd ops T o.guard (evOp P G T H o.op (dKont P G n ops K T o.dst s)) (oD P G n ops K s (putT n T o.dst undef) H)
  | none => False) := by unfold dKont; simp only [oD_eq, evD, evOne, gd_eq]; rfl
theorem oD_two (i : Nat) (s : List (Nat × Nat)) : oD P G n ops K ((i, 2) :: s) T H = (match ops[i]? with
  | some o => ogd ops T o.guard (evOp P G T H o.op (d2Kont P G n ops K T H o.dst s)) (oD P G n ops K s (putT n T o.dst undef) H)
  | none => False) := by unfold d2Kont; simp only [oD_eq, evD, evOne, gd_eq]; rfl
theorem oD_race3 (i j k : Nat) (s : List (Nat × Nat)) : oD P G n ops K ((i, 3) :: (j, k) :: s) T H = (evTwo P G n ops (oD P G n ops K s) i 3 j k T H ∧ evTwo P G n ops (oD P G n ops K s) j k i 3 T H) := by simp only [oD_eq, evD]
theorem oD_race4 (i j k : Nat) (s : List (Nat × Nat)) : oD P G n ops K ((i, 4) :: (j, k) :: s) T H = (evTwo P G n ops (oD P G n ops K s) i 4 j k T H ∧ evTwo P G n ops (oD P G n ops K s) j k i 4 T H) := by simp only [oD_eq, evD]
theorem oC_skip : oC P G pl r n .skip L T H = L .normal T H := by rw [oC_eq, evC]
theorem oC_label (l : Nat) : oC P G pl r n (.label l) L T H = L .normal T H := by rw [oC_eq, evC]
theorem oC_ret : oC P G pl r n .ret L T H = L .ret T H := by rw [oC_eq, evC]
theorem oC_exit (i : Nat) : oC P G pl r n (.exit i) L T H = L (.exit i) T H := by rw [oC_eq, evC]
theorem oC_seq (x y : Code) : oC P G pl r n (.seq x y) L T H = oC P G pl r n x (thenK (oC P G pl r n y L) L) T H := by rw [oC_eq, evC]
theorem oC_block (i : Nat) (c : Code) : oC P G pl r n (.block i c) L T H = oC P G pl r n c (blockK i L) T H := by rw [oC_eq, evC]
theorem oC_cond (c : Operand) (x y : Code) : oC P G pl r n (.cond c x y) L T H = (match opd T c with
  | some (.bool b) => selB b (oC P G pl r n x L T H) (oC P G pl r n y L T H)
  | _ => False) := by
 rw [oC_eq, evC]
 simp only [selB_arms]
 rfl
theorem oC_region (i : Nat) (o : Array Oper) : oC P G pl r n (.region i o false) L T H = (match pl i with
   | [] => oOps P G n o.toList (L .normal) o.toList T H
   | _ => WpV P r n (.region i o false) L T H) := by rw [oC_eq, evC]; simp only [oOps_eq]; rfl
theorem oC_drawn (i : Nat) (o : Array Oper) : oC P G pl r n (.region i o true) L T H = (match pl i with
   | [] => WpV P r n (.region i o true) L T H
   | s => oD P G n o.toList (L .normal) s T H) := by rw [oC_eq, evC]; simp only [oD_eq]; rfl
theorem oC_loop (c : Code) : oC P G pl r n (.loop c) L T H = WpV P r n (.loop c) L T H := by rw [oC_eq, evC]
theorem oC_range (f : Operand) (ps : Array Tmp) (x y : Code) : oC P G pl r n (.rangeFunc f ps x y) L T H = WpV P r n (.rangeFunc f ps x y) L T H := by rw [oC_eq, evC]
theorem oC_scope (c : Code) : oC P G pl r n (.scope c) L T H = WpV P r n (.scope c) L T H := by rw [oC_eq, evC]
theorem oC_goto (l : Nat) : oC P G pl r n (.goto l) L T H = WpV P r n (.goto l) L T H := by rw [oC_eq, evC]
theorem oUn_succ (c : Code) (m : Nat) : oUn P G pl r n c L (m + 1) T H = oC P G pl r n c (thenK (oUn P G pl r n c L m) L) T H := by rw [oUn_eq, evUn, oC_eq]
theorem oUn_zero (c : Code) : oUn P G pl r n c L 0 T H = False := by rw [oUn_eq, evUn]
end
theorem callsO {P : Program} {G : Gam} (hG : GamOk P G) (hmix : P.follows .mixedOrders = true) (pl : Plans) {g : FuncId} {fn : Func} {c : Code} {n : Nat} {rs : List ResultVar} {args : List Value} {H : Hp} {K : Value → Hp → Prop} (hf : P.funcs[g]? = some fn) (hb : fn.body = some c) (hn : fn.ntmps = n) (hrs : fn.results = rs.toArray)
  (hname : (fn.name == "runtime.NumGoroutine") = false) (hm : marksOf H = []) (hlen : args.length ≤ n) (hpl : plansOk pl c = true) (h : oC P G pl none n c (retK P rs K) (initT 0 args) H) : CallsV P g args H K :=
 callsV_of_body hG hmix pl hf hb hn hrs hname hm hlen hpl (by rw [oC_eq] at h; exact h)
theorem loopO {P : Program} {G : Gam} (hG : GamOk P G) (hmix : P.follows .mixedOrders = true) {pl : Plans} {r : Option Nat} {n : Nat} {c : Code} {K : Exit → Tm → Hp → Prop} {T : Tm} {H : Hp} {X : Type} (f : X → Tm × Hp) (ok : X → Prop) (μ : X → Nat) (x0 : X) (h0 : ok x0) (hsub : SubS T H (f x0))
  (hpl : plansOk pl c = true) (round : ∀ x, ok x → oC P G pl r n c (thenK (fun T' H' => ∃ x', ok x' ∧ μ x' < μ x ∧ SubS T' H' (f x')) K) (f x).1 (f x).2) : WpV P r n (.loop c) K T H :=
 loopV hG hmix f ok μ x0 h0 hsub hpl (by rw [oC_eq] at round; exact round)
theorem unrollO {P : Program} {G : Gam} (hG : GamOk P G) (hmix : P.follows .mixedOrders = true) {pl : Plans} {r : Option Nat} {n : Nat} {c : Code} {K : Exit → Tm → Hp → Prop} {T : Tm} {H : Hp} (m : Nat) (hpl : plansOk pl c = true)
  (h : oUn P G pl r n c K m T H) : WpV P r n (.loop c) K T H := unrollV hG hmix m hpl (by rw [oUn_eq] at h; exact h)
noncomputable def bKont (P : Program) (G : Gam) (pl : Plans) (r : Option Nat) (n : Nat) (body : Code) (K : Exit → Tm → Hp → Prop) (H : Hp) (T' : Tm) (H' : Hp) : Prop := marksOf H' = [] ∧ roSub H' H ∧ oC P G pl r n body K T' H'
theorem rangeO {P : Program} {G : Gam} (hG : GamOk P G) (hmix : P.follows .mixedOrders = true) {pl : Plans} {n : Nat} {g : Operand} {ps : Array Tmp} {assign body : Code} {K : Exit → Tm → Hp → Prop} {T : Tm} {H : Hp} {gf : FuncId} {caps : List Value} {Hc Hm : Hp} {vs : List (List Value)}
  (hit : IterV P gf caps Hc vs) (hg : opd T g = some (.func (.func gf) #[] caps.toArray)) {X : Type} (Ho : X → Hp) (I : Nat → X → Prop) (Stop : Code → X → Prop) (x0 : X) (h0 : I 0 x0)
  (hH : subH H (Hc ++ (Hm ++ Ho x0))) (hmH : marksOf H = marksOf Hm) (hmc : marksOf Hc = []) (hmm : ∀ e ∈ Hm, e.wr) (hmk : ∀ x, marksOf (Ho x) = []) (hro : ∀ x y, ∀ e ∈ Ho y, e.wr ∨ e ∈ Ho x) (hps : ∀ args ∈ vs, args.length = ps.size) (hpa : plansOk pl assign = true) (hpb : plansOk pl body = true) (hpc : ∀ c x, Stop c x → plansOk pl c = true)
  (hb : ∀ l k x args, vs[k]? = some args → I k x → oC P G pl (some l) n assign (thenK (bKont P G pl (some l) n body (roundK Ho I Stop k) (Ho x)) (fun _ _ _ => False)) (parT n T ps.toList args) (Ho x))
  (done : ∀ D x, fresh D (Hm ++ Ho x) → I vs.length x → K .normal T (⟨D, 0, .obj (.deferred (some [])), []⟩ :: (Hm ++ Ho x)))
  (stop : ∀ D c x, fresh D (Hm ++ Ho x) → Stop c x → oC P G pl none n c K T (⟨D, 0, .obj (.deferred (some [])), []⟩ :: (Hm ++ Ho x))) : WpV P none n (.rangeFunc g ps assign body) K T H := by
 unfold bKont at hb
 simp only [oC_eq] at hb stop
 exact rangeV hG hmix hit hg Ho I Stop x0 h0 hH hmH hmc hmm hmk hro hps hpa hpb hpc hb done stop
theorem regO {P : Program} {G : Gam} (hG : GamOk P G) {r : Option Nat} {n : Nat} {id : Nat} {ops : Array Oper} {K : Exit → Tm → Hp → Prop} {T : Tm} {H : Hp} (h : oOps P G n ops.toList (K .normal) ops.toList T H) : WpV P r n (.region id ops false) K T H := regV hG (by rw [oOps_eq] at h; exact h)
theorem enterO {P : Program} {g : FuncId} {fn : Func} {c : Code} (hf : P.funcs[g]? = some fn) (hb : fn.body = some c) (hname : (fn.name == "runtime.NumGoroutine") = false) (as' : Array Value) (w : World) : (callFunc g as').run P w = .ok (.enter g as') w := by
 have hname' : ¬ fn.name = "runtime.NumGoroutine" := by simpa using hname
 simp [callFunc, hf, hname', hb]
end Go.Ev
namespace Go.Ev
attribute [push_cast] bKont oKont dKont d2Kont tKont oOps_nil oOps_cons oD_nil oD_take oD_one oD_two oD_race3 oD_race4 evTwo evOpK oC_skip oC_label oC_ret oC_exit oC_seq oC_block oC_cond oC_region oC_drawn oC_loop oC_range oC_scope oC_goto oUn_succ oUn_zero
attribute [push_cast] getT opd putT findE subL cellsAt ofCells loadV fieldAddrV partL fieldV idxV binV unV convV eqC eqV bnd hiB loB slAddr sliceV setSeg fillL optL buildV lenV minL maxL pickV extractV evQ
attribute [push_cast] evGrow capV evLookup evMapUpd okV
attribute [push_cast] fresh updE remE oneC storeV Kind.solid writeV lenX firstX evCopy evClear evMake litV evLit repV_zero strOfV evBytes evBytesW bytesFlag bytesBad flagM evCall evP evOp evTake ogd thenK blockK parT roSub roSub_self dropM resV resOf retK initT freshN undef allWr derE subT subH SubS marksOf Ent.wr addG addM noG ret0_ex
attribute [push_cast] Option.bind_some Option.bind_none Option.map_some Option.map_none Option.toList_some Option.toList_none List.head?_cons List.head?_nil Option.isNone_none Option.isNone_some Option.isSome_some Option.isSome_none
attribute [push_cast] List.map_cons List.map_nil List.getElem?_cons_zero List.getElem?_cons_succ List.getElem?_toArray List.length_cons List.length_nil List.cons_append List.nil_append List.append_nil List.take_succ_cons List.take_zero List.take_nil List.drop_succ_cons List.drop_zero List.drop_nil List.all_cons List.all_nil List.size_toArray
attribute [push_cast] Nat.zero_add Nat.add_zero Nat.sub_zero Nat.sub_self Nat.zero_mul Nat.mul_zero Nat.one_mul Nat.mul_one Nat.le_refl Int.toNat_natCast
attribute [push_cast] if_true if_false ite_true ite_false and_true true_and and_false false_and not_false_eq_true not_true_eq_false forall_const eq_self Bool.not_true Bool.not_false Bool.true_and Bool.false_and Bool.and_true Bool.and_false Option.some.injEq ne_eq Bool.false_eq_true or_true true_or or_false false_or implies_true false_implies
theorem add_add_sub (o a b : Nat) : o + a + b - o = a + b := by omega
attribute [push_cast] Nat.le_add_right Nat.le_add_right_of_le Nat.add_sub_cancel_left add_add_sub
section
variable (P : Program) (H : Hp) (st xt : TypeId) (n c : Nat) (x : Value) (K : Value → Hp → Prop)
theorem evAppend_nil : evAppend P H st xt (.slice none n c) x K = (match slI P st with
 | none => False
 | some (e, sz, by_) => match srcL P H xt x sz with
   | none => False
   | some (ys, m) => (n = 0 ∧ c = 0) ∧ (m = 0 → K (.slice none 0 0) H) ∧ (0 < m → m * by_ ≤ two47 ∧ ∀ b c', fresh b H → m ≤ c' → K (.slice (some ⟨b, 0, none⟩) m c') (⟨b, 0, .vec e sz c', ys⟩ :: H))) := by
 unfold evAppend
 cases slI P st with
 | none => rfl
 | some t =>
   obtain ⟨e, sz, by_⟩ := t
   dsimp only
   cases srcL P H xt x sz with
   | none => rfl
   | some u => rfl
theorem evAppend_some (b o : Nat) : evAppend P H st xt (.slice (some ⟨b, o, none⟩) n c) x K = (match slI P st with
 | none => False
 | some (e, sz, by_) => match srcL P H xt x sz with
   | none => False
   | some (ys, m) => match findE H b with
     | some ⟨_, _, .vec e' sz' cap, xs⟩ => if xs.length = n * sz then (o = 0 ∧ e' = e ∧ sz' = sz ∧ cap = c ∧ xs.length = n * sz) ∧ (n + m) * by_ ≤ two47 ∧ ys.all oneC = true ∧
       ∀ b' c', fresh b' (remE H b) → n + m ≤ c' → K (.slice (some ⟨b', 0, none⟩) (n + m) c') (⟨b', 0, .vec e sz c', xs ++ ys⟩ :: remE H b)
       else (o = 0 ∧ e' = e ∧ sz' = sz ∧ cap = c ∧ (n + m) * sz ≤ xs.length) ∧ ys.all oneC = true ∧ K (.slice (some ⟨b, 0, none⟩) (n + m) c) (updE H b (setSeg xs (n * sz) ys))
     | some ⟨_, _, .ro, _⟩ => match cellsAt H b o (n * sz) with
       | some xs => (n = c ∧ 0 < m ∧ (n + m) * by_ ≤ two47) ∧ ∀ b' c', fresh b' H → n + m ≤ c' → K (.slice (some ⟨b', 0, none⟩) (n + m) c') (⟨b', 0, .vec e sz c', xs ++ ys⟩ :: H)
       | none => False
     | _ => False) := by
 unfold evAppend
 cases slI P st with
 | none => rfl
 | some t =>
   obtain ⟨e, sz, by_⟩ := t
   dsimp only
   cases srcL P H xt x sz with
   | none => rfl
   | some u => rfl
theorem srcL_none (m s : Nat) : srcL P H xt (.slice none m c) s = (match elemI P xt with
 | some (none, _, _) => if m = 0 then some ([], 0) else none
 | _ => none) := rfl
theorem srcL_some (b o m s : Nat) : srcL P H xt (.slice (some ⟨b, o, none⟩) m c) s = (match elemI P xt with
 | some (none, _, _) => match cellsAt H b o (m * s) with
   | some l => some (l, m)
   | none => if m = 0 then some ([], 0) else none
 | _ => none) := rfl
theorem srcL_str (b : ByteArray) (s : Nat) : srcL P H xt (.string b) s = if isStr P xt ∧ s = 1 then some (byteV b.data.toList, b.size) else none := rfl
end
attribute [push_cast] evAppend_nil evAppend_some srcL_none srcL_some srcL_str
theorem indexV_agg (P : Program) (t : TypeId) (cs : Array Value) (k : IntKind) (i : Int) : indexV P t (.agg cs) (.int k i) = (match elemI P t with
 | some (some n, s, ag) => if 0 ≤ i ∧ i < (n : Int) then partL ag cs (i.toNat * s) s else none
 | _ => none) := rfl
theorem indexV_string (P : Program) (t : TypeId) (b : ByteArray) (k : IntKind) (i : Int) : indexV P t (.string b) (.int k i) = if isStr P t then (if 0 ≤ i ∧ i < (b.size : Int) then (b.data[i.toNat]?).map (fun c => .int .u8 c.toNat) else none) else none := rfl
attribute [push_cast] indexV_agg indexV_string
theorem cells_int (k : IntKind) (n : Int) : (Value.int k n).cells = #[.int k n] := rfl
theorem cells_bool (b : Bool) : (Value.bool b).cells = #[.bool b] := rfl
theorem cells_string (b : ByteArray) : (Value.string b).cells = #[.string b] := rfl
theorem cells_slice (p : Option Addr) (n c : Nat) : (Value.slice p n c).cells = #[.slice p n c] := rfl
theorem cells_pointer (p : Option Addr) : (Value.pointer p).cells = #[.pointer p] := rfl
theorem cells_nilFunc : Value.nilFunc.cells = #[.nilFunc] := rfl
theorem cells_func (f : Fn) (x y : Array Value) : (Value.func f x y).cells = #[.func f x y] := rfl
theorem cells_agg (cs : Array Value) : (Value.agg cs).cells = cs := rfl
attribute [push_cast] cells_int cells_bool cells_string cells_slice cells_pointer cells_nilFunc cells_func cells_agg
section
variable (P : Program) (op : BinOp) (t : TypeId)
theorem binQ_int (k k' : IntKind) (a b : Int) : binQ P op t (.int k a) (.int k' b) = binV op (.int k a) (.int k' b) := by cases op <;> rfl
theorem binQ_string (a b : ByteArray) : binQ P op t (.string a) (.string b) = binV op (.string a) (.string b) := by cases op <;> rfl
theorem binQ_agg_eql (a b : Array Value) : binQ P .eql t (.agg a) (.agg b) = (eqV P t (.agg a) (.agg b)).map .bool := rfl
theorem binQ_agg_neq (a b : Array Value) : binQ P .neq t (.agg a) (.agg b) = (eqV P t (.agg a) (.agg b)).map fun r => .bool !r := rfl
theorem binQ_bool_eql (a b : Bool) : binQ P .eql t (.bool a) (.bool b) = (eqV P t (.bool a) (.bool b)).map .bool := rfl
theorem binQ_bool_neq (a b : Bool) : binQ P .neq t (.bool a) (.bool b) = (eqV P t (.bool a) (.bool b)).map fun r => .bool !r := rfl
theorem binQ_slice_eql (a : Option Addr) (n c : Nat) (y : Value) : binQ P .eql t (.slice a n c) y = (eqV P t (.slice a n c) y).map .bool := rfl
theorem binQ_slice_neq (a : Option Addr) (n c : Nat) (y : Value) : binQ P .neq t (.slice a n c) y = (eqV P t (.slice a n c) y).map fun r => .bool !r := rfl
theorem binQ_ptr_eql (a : Option Addr) (y : Value) : binQ P .eql t (.pointer a) y = (eqV P t (.pointer a) y).map .bool := rfl
theorem binQ_ptr_neq (a : Option Addr) (y : Value) : binQ P .neq t (.pointer a) y = (eqV P t (.pointer a) y).map fun r => .bool !r := rfl
end
attribute [push_cast] ptrV dataV ptrC usV binQ_ptr_eql binQ_ptr_neq byteL_byteV
attribute [push_cast] binQ_int binQ_string binQ_agg_eql binQ_agg_neq binQ_bool_eql binQ_bool_neq binQ_slice_eql binQ_slice_neq
section
variable (P : Program) (t : TypeId) (k : TypeId) (v : Value)
theorem isNilC_tmp (i : Nat) : isNilC (.tmp i) = false := rfl
theorem isNilC_global (i : Nat) : isNilC (.global i) = false := rfl
theorem isNilC_func (i : Nat) : isNilC (.func i) = false := rfl
theorem isNilC_nil : isNilC (.const .nilIface) = true := rfl
theorem isNilC_int (k : IntKind) (n : Int) : isNilC (.const (.int k n)) = false := rfl
theorem isNilC_bool (b : Bool) : isNilC (.const (.bool b)) = false := rfl
theorem isNilC_string (b : ByteArray) : isNilC (.const (.string b)) = false := rfl
theorem isNilC_slice (p : Option Addr) (n c : Nat) : isNilC (.const (.slice p n c)) = false := rfl
theorem isNilC_pointer (p : Option Addr) : isNilC (.const (.pointer p)) = false := rfl
theorem isNilC_agg (cs : Array Value) : isNilC (.const (.agg cs)) = false := rfl
theorem isNilC_nilFunc : isNilC (.const .nilFunc) = false := rfl
theorem isNilC_map (m : Option Nat) : isNilC (.const (.map m)) = false := rfl
theorem nilQ_en : nilQ P .eql t .nilIface = if isIf P t then some (.bool true) else none := rfl
theorem nilQ_nn : nilQ P .neq t .nilIface = if isIf P t then some (.bool false) else none := rfl
theorem nilQ_ei : nilQ P .eql t (.iface k v) = if isIf P t then some (.bool false) else none := rfl
theorem nilQ_ni : nilQ P .neq t (.iface k v) = if isIf P t then some (.bool true) else none := rfl
theorem cells_iface : (Value.iface k v).cells = #[.iface k v] := rfl
theorem cells_nilIface : Value.nilIface.cells = #[.nilIface] := rfl
end
attribute [push_cast] isNilC_tmp isNilC_global isNilC_func isNilC_nil isNilC_int isNilC_bool isNilC_string isNilC_slice isNilC_pointer isNilC_agg isNilC_nilFunc isNilC_map nilQ_en nilQ_nn nilQ_ei nilQ_ni ifaceV cells_iface cells_nilIface
theorem wrap_i64' {n : Int} (h : -9223372036854775808 ≤ n ∧ n ≤ 9223372036854775807) : IntKind.i64.wrap n = n := IntWalk.i64_in n h
theorem wrap_u64' {n : Int} (h : 0 ≤ n ∧ n ≤ 18446744073709551615) : IntKind.u64.wrap n = n := IntWalk.u64_in n h
theorem wrap_u8' {n : Int} (h : 0 ≤ n ∧ n ≤ 255) : IntKind.u8.wrap n = n := IntWalk.u8_in n h
theorem wrap_i32' {n : Int} (h : -2147483648 ≤ n ∧ n ≤ 2147483647) : IntKind.i32.wrap n = n := IntWalk.i32_in n h
theorem wrap_u32' {n : Int} (h : 0 ≤ n ∧ n ≤ 4294967295) : IntKind.u32.wrap n = n := IntWalk.u32_in n h
attribute [push_cast] wrap_i64' wrap_u64' wrap_u8' wrap_i32' wrap_u32' Int.ofNat_lt Int.ofNat_le Int.natCast_nonneg Int.toNat_zero Int.toNat_one decide_true decide_false
attribute [push_cast] Nat.zero_le beq_self_eq_true Int.zero_add Int.add_zero roundK and_self selB Int.natCast_pos Int.natCast_zero Int.add_sub_cancel
end Go.Ev
namespace Go.Ev
def OutC (e s : Nat) (cs : List Value) (n : Nat) (v : Value) (N : Hp) : Prop :=
 (n = 0 ∧ cs = [] ∧ v = .slice none 0 0 ∧ N = []) ∨ ∃ b c, 0 < n ∧ v = .slice (some ⟨b, 0, none⟩) n c ∧ n ≤ c ∧ cs.length = n * s ∧ N = [⟨b, 0, .vec e s c, cs⟩]
theorem OutC.nil (e s : Nat) : OutC e s [] 0 (.slice none 0 0) [] := .inl ⟨rfl, rfl, rfl, rfl⟩
theorem OutC.wr {e s n : Nat} {cs : List Value} {v : Value} {N : Hp} (h : OutC e s cs n v N) : allWr N ∧ marksOf N = [] := by
 rcases h with ⟨_, _, _, rfl⟩ | ⟨b, c, _, _, _, _, rfl⟩
 · exact ⟨trivial, rfl⟩
 · exact ⟨⟨trivial, trivial⟩, rfl⟩
theorem OutC.slice {e s n : Nat} {cs : List Value} {v : Value} {N : Hp} (h : OutC e s cs n v N) : ∃ p c, v = .slice p n c := by
 rcases h with ⟨rfl, _, rfl, _⟩ | ⟨b, c, _, rfl, _, _, _⟩
 · exact ⟨_, _, rfl⟩
 · exact ⟨_, _, rfl⟩
theorem OutC.at {e s n : Nat} {cs : List Value} {v : Value} {N : Hp} (h : OutC e s cs n v N) (X : Hp) : ∃ p c, v = .slice p n c ∧ (n = 0 ∨ ∃ b, p = some ⟨b, 0, none⟩ ∧ cellsAt (N ++ X) b 0 (n * s) = some cs) := by
 rcases h with ⟨rfl, _, rfl, _⟩ | ⟨b, c, _, rfl, _, h, rfl⟩
 · exact ⟨_, _, rfl, .inl rfl⟩
 · refine ⟨_, _, rfl, .inr ⟨b, rfl, ?_⟩⟩
   simp only [cellsAt, List.cons_append, findE, if_true, Nat.le_refl, Nat.sub_self, subL, Nat.zero_add, List.drop_zero]
   rw [← h, if_pos (Nat.le_refl _), List.take_length]
theorem findE_freshN {N : Hp} {b : Nat} {H X : Hp} {e : Ent} (h : freshN N H) (hf : findE H b = some e) : findE (N ++ X) b = findE X b := by
 have hm : e ∈ H ∧ e.blk = b := findE_mem hf
 induction N with
 | nil => rfl
 | cons x r ih =>
   have : ¬ b = x.blk := by
    intro h0
    have := fresh_ne h.1 e hm.1
    exact this (hm.2.trans h0)
   simp only [List.cons_append, findE, if_neg this]
   exact ih h.2
section
variable {P : Program} {X N : Hp} {st xt e sz by_ n m : Nat} {cs ys : List Value} {v x : Value} {K : Value → Hp → Prop}
theorem append_out1 {a : Ent} (ho : OutC e sz cs n v N) (ha : fresh a.blk (N ++ X)) (hs : slI P st = some (e, sz, by_)) (hx : srcL P (a :: (N ++ X)) xt x sz = some (ys, m)) (hl : ys.length = m * sz) (h1 : ys.all oneC = true) (hb : (n + m) * by_ ≤ two47)
  (hk : ∀ v' N', OutC e sz (cs ++ ys) (n + m) v' N' → freshN N' (a :: X) → K v' (N' ++ a :: X)) : evAppend P (a :: (N ++ X)) st xt v x K := by
 have hsz : 0 < sz := (slI_eq hs).2.elim fun _ h => h.elim fun _ h => h.2.2.2.2.2.1
 unfold evAppend
 rw [hs]
 dsimp only
 rw [hx]
 dsimp only
 rcases ho with ⟨rfl, rfl, rfl, rfl⟩ | ⟨b, c, h0, rfl, hc, hcl, rfl⟩
 · refine ⟨⟨rfl, rfl⟩, fun hm => ?_, fun hm => ⟨by simpa using hb, fun b c' hf hc' => ?_⟩⟩
   · subst hm
     have : ys = [] := List.length_eq_zero_iff.1 (by simpa using hl)
     subst this
     exact hk _ [] (.inl ⟨rfl, rfl, rfl, rfl⟩) trivial
   · have := hk (.slice (some ⟨b, 0, none⟩) (0 + m) c') [⟨b, 0, .vec e sz c', [] ++ ys⟩] (.inr ⟨b, c', by omega, rfl, by omega, by simpa using hl, rfl⟩) ⟨hf, trivial⟩
     rw [Nat.zero_add] at this
     exact this
 · have hab : ¬ b = a.blk := ha.2.1
   simp only [List.cons_append, List.nil_append, findE, remE, if_neg hab, if_true, if_pos hcl]
   refine ⟨⟨trivial, trivial, trivial, trivial, hcl⟩, hb, h1, fun b' c' hf hc' => ?_⟩
   exact hk _ [⟨b', 0, .vec e sz c', cs ++ ys⟩] (.inr ⟨b', c', by omega, rfl, hc', by rw [List.length_append, hcl, hl, Nat.add_mul], rfl⟩) ⟨hf, trivial⟩
end
theorem freshN_cons {N : Hp} {a : Ent} {X : Hp} (h : freshN N (a :: X)) : freshN N X := by
 induction N with
 | nil => trivial
 | cons x r ih => exact ⟨h.1.2.2, ih h.2⟩
theorem freshN_app {N : Hp} {A X : Hp} (h : freshN N (A ++ X)) : freshN N X := by
 induction A with
 | nil => exact h
 | cons a A ih => exact ih (freshN_cons h)
section
variable (P : Program) (G : Gam) (n : Nat) (ops : List Oper)
end
end Go.Ev
namespace Go.Ev
open Go.ChangeShapes Go.WideShapes Go.RowKit
def blkE (w : World) (b : Nat) : Ent := ⟨b, 0, .ro, match w.heap[b]? with | some (.cells cs _ _) => cs.toList | _ => []⟩
def roW (w : World) : Hp := (List.range w.heap.size).map (blkE w)
theorem roW_mem {w : World} {e : Ent} (h : e ∈ roW w) : ∃ b, b < w.heap.size ∧ e = blkE w b := by
 obtain ⟨b, hb, rfl⟩ := List.mem_map.1 h
 exact ⟨b, List.mem_range.1 hb, rfl⟩
theorem roW_sat (w : World) : Sat w (fun _ => False) (roW w) w := by
 refine ⟨rfl, rfl, rfl, Nat.le_refl _, fun _ _ _ => rfl, fun e he => ?_, fun e he hw => ?_, ?_⟩
 · obtain ⟨b, hb, rfl⟩ := roW_mem he
   refine ⟨hb, fun k v hk => ?_⟩
   unfold blkE at hk ⊢
   dsimp only at hk ⊢
   cases ho : w.heap[b]? with
   | none => rw [ho] at hk; simp at hk
   | some o =>
     rw [ho] at hk
     cases o with
     | cells cs t fr =>
       dsimp only at hk
       simp only [World.cell?, ho, Option.isSome_none, Bool.false_eq_true, if_false]
       simpa using hk
     | _ => simp at hk
 · obtain ⟨b, hb, rfl⟩ := roW_mem he
   exact hw.elim
 · refine List.pairwise_iff_forall_sublist.2 fun {a b} hab hw => ?_
   obtain ⟨x, _, rfl⟩ := roW_mem (hab.subset (by simp : a ∈ [a, b]))
   obtain ⟨y, _, rfl⟩ := roW_mem (hab.subset (by simp : b ∈ [_, b]))
   rcases hw with hw | hw <;> exact hw.elim
theorem marks_ro : ∀ {L : Hp}, (∀ e ∈ L, e.kind = .ro) → marksOf L = []
 | [], _ => rfl
 | x :: r, h => by simp only [marksOf, h x (by simp)]; exact marks_ro fun e he => h e (by simp [he])
theorem roW_marks (w : World) : marksOf (roW w) = [] := marks_ro fun e he => by
 obtain ⟨b, _, rfl⟩ := roW_mem he; rfl
theorem find_map {w : World} {b : Nat} : ∀ {l : List Nat}, b ∈ l → findE (l.map (blkE w)) b = some (blkE w b)
 | [], h => by cases h
 | x :: r, h => by
   simp only [List.map_cons, findE]
   by_cases hx : b = x
   · subst hx; rw [if_pos (show b = (blkE w b).blk from rfl)]
   · rw [if_neg (show ¬ b = (blkE w x).blk from hx)]
     exact find_map ((List.mem_cons.1 h).resolve_left hx)
theorem roW_find {w : World} {b : Nat} (h : b < w.heap.size) : findE (roW w) b = some (blkE w b) := find_map (List.mem_range.2 h)
theorem cells?_get {w : World} {base n : Nat} {a : Addr} {cs : List Value} (h : w.cells? base a n = some cs) : cs.length = n ∧ ∀ i, i < n → w.cell? (a.add i) = cs[i]? := by
 unfold World.cells? at h
 split at h
 · refine ⟨by simpa using mapM_some_length h, fun i hi => ?_⟩
   exact mapM_some_get h i i (by simp [hi])
 · cases h
theorem cell?_spot {w : World} {a : Addr} {v : Value} (h : w.cell? a = some v) : a.spot = none ∧ ∃ cs t fr, w.heap[a.block]? = some (.cells cs t fr) ∧ cs[a.off]? = some v := by
 unfold World.cell? at h
 split at h
 · rename_i c t fr ho
   split at h
   · cases h
   · rename_i hs
     exact ⟨by cases hs2 : a.spot <;> simp_all, c, t, fr, ho, h⟩
 · cases h
theorem roW_cells {w : World} {base n : Nat} {a : Addr} {cs : List Value} (h : w.cells? base a n = some cs) (hn : 0 < n) : a.spot = none ∧ cellsAt (roW w) a.block a.off n = some cs := by
 obtain ⟨hl, hg⟩ := cells?_get h
 have h0 := hg 0 hn
 rw [List.getElem?_eq_getElem (by omega)] at h0
 have e0 : a.add 0 = a := by unfold Addr.add; rw [if_pos rfl]
 rw [e0] at h0
 obtain ⟨hs, c, t, fr, ho, hc⟩ := cell?_spot h0
 have hlt : a.block < w.heap.size := (Array.getElem?_eq_some_iff.1 ho).1
 have hget : ∀ i, i < n → c.toList[a.off + i]? = cs[i]? := fun i hi => by
  have h1 := hg i hi
  rw [List.getElem?_eq_getElem (by omega)] at h1
  obtain ⟨_, c', t', fr', ho', hc'⟩ := cell?_spot h1
  have eb : (a.add i).block = a.block := by unfold Addr.add; split <;> rfl
  have eo : (a.add i).off = a.off + i := by unfold Addr.add; split <;> simp_all
  rw [eb, ho] at ho'
  cases ho'
  rw [eo] at hc'
  rw [List.getElem?_eq_getElem (l := cs) (i := i) (by omega)]
  simpa using hc'
 have hlen : a.off + n ≤ c.toList.length := by
  have h1 := hget (n - 1) (by omega)
  rw [List.getElem?_eq_getElem (l := cs) (by omega)] at h1
  have := (List.getElem?_eq_some_iff.1 h1).1
  omega
 refine ⟨hs, ?_⟩
 unfold cellsAt
 rw [roW_find hlt]
 have ec : (blkE w a.block).cells = c.toList := by unfold blkE; rw [ho]
 have eo : (blkE w a.block).off = 0 := rfl
 dsimp only
 rw [ec, eo, if_pos (Nat.zero_le _), Nat.sub_zero]
 unfold subL
 rw [if_pos hlen]
 congr 1
 refine List.ext_getElem? fun i => ?_
 by_cases hi : i < n
 · rw [List.getElem?_take_of_lt hi, List.getElem?_drop, hget i hi]
 · rw [List.getElem?_eq_none (by simp; omega), List.getElem?_eq_none (by omega)]
theorem cellsAt_append {H : Hp} {b o n m : Nat} {A B : List Value} (h1 : cellsAt H b o n = some A) (h2 : cellsAt H b (o + n) m = some B) : cellsAt H b o (n + m) = some (A ++ B) := by
 unfold cellsAt at *
 cases hf : findE H b with
 | none => rw [hf] at h1; cases h1
 | some e =>
   rw [hf] at h1 h2
   dsimp only at h1 h2 ⊢
   split at h1
   case isFalse => cases h1
   rename_i ho
   rw [if_pos (by omega)] at h2
   rw [if_pos ho]
   unfold subL at *
   split at h1
   case isFalse => cases h1
   rename_i hl1
   split at h2
   case isFalse => cases h2
   rename_i hl2
   rw [if_pos (by omega)]
   rw [← Option.some.inj h1, ← Option.some.inj h2, show o + n - e.off = o - e.off + n by omega, ← List.drop_drop, ← List.take_add]
theorem roW_row {w : World} {base s : Nat} {a : Addr} (f : Nat → List Value) (hs : 0 < s) : ∀ {len : Nat}, (∀ i, i < len → w.cells? base (a.add (i * s)) s = some (f i)) → 0 < len →
  a.spot = none ∧ cellsAt (roW w) a.block a.off (len * s) = some ((List.range len).flatMap f) := by
 have eb : ∀ i, (a.add i).block = a.block := fun i => by unfold Addr.add; split <;> rfl
 have eo : ∀ i, (a.add i).off = a.off + i := fun i => by unfold Addr.add; split <;> simp_all
 intro len
 induction len with
 | zero => intro _ h; omega
 | succ len ih =>
   intro h _
   have hl := roW_cells (h len (by omega)) hs
   rw [eb, eo] at hl
   rcases Nat.eq_zero_or_pos len with rfl | hpos
   · refine ⟨?_, ?_⟩
     · have := hl.1; rw [Nat.zero_mul] at this; unfold Addr.add at this; rwa [if_pos rfl] at this
     · simpa using hl.2
   · obtain ⟨i1, i2⟩ := ih (fun i hi => h i (by omega)) hpos
     refine ⟨i1, ?_⟩
     rw [List.range_succ, List.flatMap_append, List.flatMap_singleton, Nat.succ_mul]
     exact cellsAt_append i2 hl.2
inductive FK where
 | int (k : IntKind)
 | bool
 | str
def FK.ok : FK → Value → Prop
 | .int k, v => ∃ n, v = .int k n ∧ (Lit.int k n).wf = true
 | .bool, v => ∃ b, v = .bool b
 | .str, v => ∃ s : ByteArray, v = .string s ∧ s.size ≤ maxLen
def flatT (P : Program) : Nat → TypeId → Option (List FK)
 | 0, _ => none
 | d + 1, t => match P.underlying t with
   | some (.int k) => some [.int k]
   | some .bool => some [.bool]
   | some .string => some [.str]
   | some (.array n e) => (flatT P d e).map fun l => (List.replicate n l).flatten
   | some (.struct fs) => (fs.toList.mapM fun f => flatT P d f.type).map List.flatten
   | _ => none
inductive All2 {α β : Type} (r : α → β → Prop) : List α → List β → Prop
 | nil : All2 r [] []
 | cons {a b l m} : r a b → All2 r l m → All2 r (a :: l) (b :: m)
theorem All2.length {α β : Type} {r : α → β → Prop} {l : List α} {m : List β} (h : All2 r l m) : l.length = m.length := by
 induction h with
 | nil => rfl
 | cons _ _ ih => simp [ih]
theorem All2.append {α β : Type} {r : α → β → Prop} {l l' : List α} {m m' : List β} (h : All2 r l m) (h' : All2 r l' m') : All2 r (l ++ l') (m ++ m') := by
 induction h with
 | nil => exact h'
 | cons h1 _ ih => exact .cons h1 ih
theorem All2.pieces {r : FK → Value → Prop} : ∀ (ps : List (List FK)) (cs : List Value), cs.length = (ps.map List.length).sum →
  (∀ i p, ps[i]? = some p → All2 r p ((cs.drop ((ps.take i).map List.length).sum).take p.length)) → All2 r ps.flatten cs
 | [], cs, hl, _ => by
   have : cs = [] := List.length_eq_zero_iff.1 (by simpa using hl)
   subst this; exact .nil
 | p :: ps, cs, hl, h => by
   have h0 := h 0 p rfl
   simp only [List.take_zero, List.map_nil, List.sum_nil, List.drop_zero] at h0
   have hr := All2.pieces ps (cs.drop p.length) (by simp at hl ⊢; omega) fun i q hq => by
    have := h (i + 1) q (by simpa using hq)
    simp only [List.take_succ_cons, List.map_cons, List.sum_cons] at this
    rwa [← List.drop_drop] at this
   rw [List.flatten_cons]
   have := h0.append hr
   rwa [List.take_append_drop] at this
theorem sum_take_le {α : Type} (f : α → Nat) : ∀ (l : List α) (j : Nat) (x : α), l[j]? = some x → ((l.take j).map f).sum + f x ≤ (l.map f).sum
 | [], j, x, h => by simp at h
 | y :: r, 0, x, h => by simp at h; subst h; simp
 | y :: r, j + 1, x, h => by
   have := sum_take_le f r j x (by simpa using h)
   simp only [List.take_succ_cons, List.map_cons, List.sum_cons]; omega
section
variable {H : Type} {enc : TypeId × Value → H} {P : Program} {w : World} {base : Nat} {spare : Nat → Bool} {held : Bool} {T : TypeId → Prop}
theorem flat_of_trod (K : Kids P T) : ∀ (d : Nat) {t : TypeId} {ks : List FK} {fuel : Nat} {cs : List Value} {x : DataW H × List MemPlace}, T t → flatT P d t = some ks → DataW.trod enc P w base spare held fuel t cs = some x → All2 FK.ok ks cs
 | 0, _, _, _, _, _, _, h, _ => by simp [flatT] at h
 | d + 1, t, ks, fuel, cs, x, hT, h, hx => by
   simp only [flatT] at h
   cases hu : P.underlying t with
   | none => rw [hu] at h; cases h
   | some u =>
     rw [hu] at h
     cases u with
     | int k =>
       obtain ⟨n, rfl, _, hw⟩ := DataW.trod_int hu hx
       cases h
       exact .cons ⟨n, rfl, hw⟩ .nil
     | bool =>
       obtain ⟨b, rfl, _⟩ := DataW.trod_bool hu hx
       cases h
       exact .cons ⟨b, rfl⟩ .nil
     | string =>
       obtain ⟨s, rfl, _, hs⟩ := DataW.trod_string hu hx
       cases h
       exact .cons ⟨s, rfl, hs⟩ .nil
     | array n e =>
       obtain ⟨l, hl, rfl⟩ := Option.map_eq_some_iff.1 h
       obtain ⟨he, hc⟩ := K.array hT hu
       obtain ⟨xs, m, _, _, hcs, hxs, hi⟩ := DataW.trod_array hu hx
       have each : ∀ i, i < n → All2 FK.ok l ((cs.drop (i * P.cellsOf e)).take (P.cellsOf e)) := fun i hin => by
        have := hi i hin
        rw [List.getElem?_eq_getElem (by omega)] at this
        exact flat_of_trod K d he hl this
       have hle : ∀ i, i < n → l.length = P.cellsOf e := fun i hin => by
        have := (each i hin).length
        have h2 : (i + 1) * P.cellsOf e ≤ n * P.cellsOf e := Nat.mul_le_mul_right _ hin
        rw [Nat.succ_mul] at h2
        simp only [List.length_take, List.length_drop] at this
        omega
       refine All2.pieces _ _ ?_ fun i p hp => ?_
       · rw [List.map_replicate, List.sum_replicate_nat, hcs, hc]
         rcases Nat.eq_zero_or_pos n with rfl | hn
         · simp
         · rw [hle 0 hn]
       · obtain ⟨hin, hpe⟩ := List.getElem?_eq_some_iff.1 hp
         simp only [List.length_replicate] at hin
         simp only [List.getElem_replicate] at hpe
         subst hpe
         rw [List.take_replicate, List.map_replicate, List.sum_replicate_nat, Nat.min_eq_left (by omega), hle i hin]
         exact each i hin
     | struct fs =>
       obtain ⟨ps, hps, rfl⟩ := Option.map_eq_some_iff.1 h
       obtain ⟨hT', hc, ho⟩ := K.struct hT hu
       obtain ⟨xs, m, _, _, hcs, hxs, hi⟩ := DataW.trod_struct hu hx
       have hpl : ps.length = fs.toList.length := mapM_some_length hps
       have each : ∀ (j : Nat) (f : Field) (p : List FK), fs.toList[j]? = some f → ps[j]? = some p → All2 FK.ok p ((cs.drop f.offset).take (P.cellsOf f.type)) ∧ p.length = P.cellsOf f.type := fun j f p hf hp => by
        have h1 := hi j f (by simpa using hf)
        have hj := (List.getElem?_eq_some_iff.1 hf).1
        have hj' : j < fs.size := by simpa using hj
        rw [List.getElem?_eq_getElem (by omega)] at h1
        have h2 := mapM_some_get hps j f hf
        rw [hp] at h2
        have h3 := flat_of_trod K d (hT' f (List.mem_of_getElem? hf)) h2 h1
        refine ⟨h3, ?_⟩
        have h4 := sum_take_le (fun f : Field => P.cellsOf f.type) fs.toList j f hf
        rw [← hc, ← ho j f hf, ← hcs] at h4
        have h5 := h3.length
        simp only [List.length_take, List.length_drop] at h5
        omega
       have hlen : ps.map List.length = fs.toList.map fun f => P.cellsOf f.type := by
        refine List.ext_getElem? fun j => ?_
        by_cases hj : j < fs.toList.length
        · rw [List.getElem?_map, List.getElem?_map, List.getElem?_eq_getElem hj, List.getElem?_eq_getElem (by omega)]
          simp only [Option.map_some]
          rw [(each j _ _ (List.getElem?_eq_getElem hj) (List.getElem?_eq_getElem (by omega))).2]
        · rw [List.getElem?_eq_none (by simp; omega), List.getElem?_eq_none (by simpa using hj)]
       refine All2.pieces _ _ (by rw [hlen, hcs, hc]) fun j p hp => ?_
       have hj := (List.getElem?_eq_some_iff.1 hp).1
       obtain ⟨f, hf⟩ : ∃ f, fs.toList[j]? = some f := ⟨_, List.getElem?_eq_getElem (by omega)⟩
       obtain ⟨h1, h2⟩ := each j f p hf hp
       rw [List.map_take, hlen, ← List.map_take, ← ho j f hf, h2]
       exact h1
     | _ => cases h
theorem flat_of_Trod (K : Kids P T) {d : Nat} {t : TypeId} {ks : List FK} {v : Value} {dd : DataW H} {ps : List MemPlace} (hT : T t) (hks : flatT P d t = some ks) (h : DataW.Trod enc P w base spare held t v dd ps) : All2 FK.ok ks v.cells.toList := by
 obtain ⟨fuel, hf⟩ := h
 exact flat_of_trod K d hT hks hf
theorem kept_of {w w' : World} {may : MemPlace → Prop} (h1 : w'.os = w.os) (h2 : w'.output = w.output) (h3 : ∀ b, b < w.heap.size → w'.heap[b]? = w.heap[b]?) : w.keptBut w' may := by
 refine ⟨h1, h2, fun i hi => ?_⟩
 rw [h3 i hi]
 split
 · rename_i h4 h5
   rw [h4] at h5
   cases h5
   exact ⟨rfl, rfl, rfl, fun _ _ => rfl⟩
 · rename_i h4 h5
   rw [h4] at h5
   cases h5
   exact .inr ⟨rfl, rfl⟩
 · rename_i h4 h5
   rfl
theorem same_at {w w' : World} (h : ∀ b, b < w.heap.size → w'.heap[b]? = w.heap[b]?) {p : MemPlace} (hp : p.block < w.heap.size) : w.sameAt w' p := by
 cases p with
 | cell b off => show w'.cell? _ = w.cell? _; unfold World.cell?; rw [h b hp]
 | map b => exact h b hp
theorem trodAll_again (K : Kids P T) (hsz : ∀ {t e : TypeId}, T t → P.underlying t = some (.slice e) → 0 < P.cellsOf e) {w' : World} {sp' : Nat → Bool} (h : ∀ b, b < w.heap.size → w'.heap[b]? = w.heap[b]?) (hsp : ∀ b, b < w.heap.size → sp' b = true) : ∀ {ts : List TypeId} {vs : List Value} {ds : List (DataW H)} {ps : List MemPlace}, (∀ t ∈ ts, T t) → DataW.TrodAll enc P w base (fun _ => true) true ts vs ds ps → DataW.TrodAll enc P w' base sp' true ts vs ds ps
 | [], vs, ds, ps, _, ht => by
   obtain ⟨rfl, rfl, rfl⟩ := trodAll_nil ht
   exact trodAll_mk0
 | t :: ts, vs, ds, ps, hT, ht => by
   have hlt := DataW.TrodAll.lt ht
   obtain ⟨v, vs', dd, ds', p, q, rfl, rfl, rfl, ⟨n, hn⟩, h2⟩ := trodAll_cons ht
   refine ⟨p, q, ⟨n, ?_⟩, trodAll_again K hsz h hsp (fun t ht => hT t (by simp [ht])) h2, rfl⟩
   exact DataW.trod_stays K hsz (fun hh => by cases hh) (hT t (by simp)) hn (fun x hx => same_at h (hlt x (List.mem_append_left _ hx))) (fun x hx => hsp _ (hlt x (List.mem_append_left _ hx)))
end
theorem law_post {H : Type} {enc : TypeId × Value → H} {P : Program} {f : Func} {s : ChangeSpec} {apart fresh handsOn : Bool} {W W' : World} {args : Array Value} {ds gs : List (DataW H)} {before : List MemPlace} {tb : TypeId}
  (K : Kids P (· < P.types.size)) (hsz : ∀ t e, t < P.types.size → P.underlying t = some (.slice e) → 0 < P.cellsOf e) (hT : ∀ t ∈ f.params.toList, t < P.types.size) (hsv : s.vars = []) (hb : P.underlying tb = some .bool) (hres : f.resultTypes = #[tb])
  (hW : DataW.Whole enc P f.params.toList s.vars apart W args.toList ds gs before) (hfn : s.fn H (ds ++ gs) = { results := [.lit (.bool true)], args := ds })
  (h1 : W'.os = W.os) (h2 : W'.output = W.output) (h3 : ∀ b, b < W.heap.size → W'.heap[b]? = W.heap[b]?) : s.post enc P f apart fresh handsOn false W args (.bool true) W' := by
 have hW2 := hW
 obtain ⟨p, q, hA, hV, rfl, hfz, hnd⟩ := hW
 have hg : gs = [] ∧ q = [] := by rw [hsv] at hV; exact trodVars_none hV
 obtain ⟨rfl, rfl⟩ := hg
 refine ⟨ds, [], p ++ [], [], p, [], hW2, ?_, ?_, ?_, kept_of h1 h2 h3, fun h => by cases h⟩
 · rw [hfn, hres]
   exact trodAll_mk1 (shut_bool hb true)
 · rw [hfn]
   exact trodAll_again K (fun ht hu => hsz _ _ ht hu) h3 (fun b hb => by simpa using hb) hT hA
 · rw [hfn, hsv]; rfl
end Go.Ev
