/- Texts of this claim, merged by program: Ni Nj Ie If. -/
import Derived.Test.YtpcjmmdgopihcaaGreatDoorZfAg
import Derived.Test.YtpcjmmdgopihcaaGreatDoorZfAo
import Derived.Test.YtpcjmmdgopihcaaGreatDoorZfAh
import Derived.Test.YtpcjmmdgopihcaaGreatDoorZfAl
import Derived.Test.YtpcjmmdgopihcaaGreatDoorZfAm
set_option linter.unusedSimpArgs false
set_option linter.unusedVariables false
namespace Go.Ev
open Go.RowKit
def IterN (P : Program) (gf : FuncId) (caps : List Value) (Hc : Hp) (num : Nat) (V : Nat → List Value → Hp → Prop) : Prop :=
  (∀ (ar : Array Value) (w : World), (callFunc gf ar).run P w = .ok (.enter gf ar) w) ∧
  ∀ (X : Type) (Ho : X → Hp) (I : Nat → X → Prop) (St : X → Prop) (l : Nat) (x0 : X), (∀ x y, ∀ e ∈ Ho y, e.wr ∨ e ∈ Ho x) → (∀ x, marksOf (Ho x) = []) → I 0 x0 →
    (∀ k x args N, k < num → V k args N → allWr N → marksOf N = [] → I k x → YieldV P l args (N ++ Ho x) fun v H' => (v = .bool true ∧ ∃ x', I (k + 1) x' ∧ H' = Ho x') ∨ (v = .bool false ∧ ∃ x', St x' ∧ H' = Ho x')) →
    CallsV P gf (.func (.yield l) #[] #[] :: caps) (Hc ++ Ho x0) fun _ H' => ∃ x, (I num x ∨ St x) ∧ H' = Ho x
theorem round_okN {P : Program} {G : Gam} (hG : GamOk P G) (hmix : P.follows .mixedOrders = true) {pl : Plans} {n : Nat} {ps : Array Tmp} {assign body : Code} {T : Tm} {args : List Value} {X : Type} {Ho : X → Hp} {I : Nat → X → Prop} {Stop : Code → X → Prop} {a : Act} {L : Nat} {A : Hp} {rec : LoopState → Option Code → Loop} {fn : FuncId} {N : Hp} (hNm : marksOf N = [])
    (hrec : rec = fun st pe => { state := st, pending := pe, fn, tmps := a.tmps, params := ps, assign, body, defers := (rec .ready none).defers }) (ht : TRel n T a) (hps : args.length = ps.size)
    (hmk : ∀ x, marksOf (Ho x) = []) (hro : ∀ x y, ∀ e ∈ Ho y, e.wr ∨ e ∈ Ho x) (k : Nat) (x : X) (hpa : plansOk pl assign = true) (hpb : plansOk pl body = true)
    (hb : evC P G pl (some L) n assign (thenK (fun T' H' => marksOf H' = [] ∧ roSub H' (N ++ Ho x) ∧ evC P G pl (some L) n body (roundK Ho I Stop k) T' H') (fun _ _ _ => False)) (parT n T ps.toList args) (N ++ Ho x)) :
    YieldV P L args (⟨L, 0, .obj (.loop (rec .ready none)), []⟩ :: (A ++ (N ++ Ho x))) fun v H' => (v = .bool true ∧ ∃ x', I (k + 1) x' ∧ H' = ⟨L, 0, .obj (.loop (rec .ready none)), []⟩ :: (A ++ Ho x')) ∨
      (v = .bool false ∧ ∃ x' c, Stop c x' ∧ H' = ⟨L, 0, .obj (.loop (rec .done (some c))), []⟩ :: (A ++ Ho x')) := by
  intro w0 mu W hs
  have hl := hs.objAt
  have hpar : args.toArray.size = (rec .ready none).params.size := by rw [hrec]; simpa using hps
  refine ⟨_, _, _, _, run_yield (P := P) (args := args.toArray) hl hpar, ?_⟩
  have e1 : (rec .ready none).fn = fn := by rw [hrec]
  have e2 : (rec .ready none).params = ps := by rw [hrec]
  have e3 : (rec .ready none).tmps = a.tmps := by rw [hrec]
  have e4 : (rec .ready none).assign = assign := by rw [hrec]
  have e5 : (rec .ready none).body = body := by rw [hrec]
  rw [e1, e2, e3, e4, e5]
  refine roundIn_of_wpIn trivial ?_
  have hfold : (ps.zip args.toArray).foldl (fun tmps (x : Tmp × Value) => tmps.setIfInBounds x.1 x.2) a.tmps = (ps.toList.zip args).foldl (fun t (x : Tmp × Value) => t.setIfInBounds x.1 x.2) a.tmps := by
    rw [← Array.foldl_toList, Array.toList_zip]
  have hfold' : (ps.zip args.toArray).foldl (fun tmps (t, a) => tmps.setIfInBounds t a) a.tmps = (ps.toList.zip args).foldl (fun t (x : Tmp × Value) => t.setIfInBounds x.1 x.2) a.tmps := hfold
  rw [hfold']
  have ht1 := parT_ok ps.toList args T a ht
  have hs1 : Sat w0 mu ((⟨L, 0, .obj (.loop (rec .ready none)), []⟩ :: A) ++ (N ++ Ho x)) W := hs
  have hin := frame_in hs1
  have pAH := (List.pairwise_append.1 hs1.apart).2.2
  have hLlt : L < W.heap.size := (Array.getElem?_eq_some_iff.1 hl).1
  have hLmu : ∀ H' : Hp, (∀ e ∈ H', e.wr → L ≠ e.blk) → ¬ muOf H' L := by
    rintro H' hh ⟨e, he, hw, hb⟩
    exact hh e he hw hb.symm
  have hrA : RoundOk (some L) W (muOf (N ++ Ho x)) := fun l hl' => by
    cases hl'
    exact ⟨hLlt, hLmu _ (fun e he _ => pAH ⟨L, 0, .obj (.loop (rec .ready none)), []⟩ (by simp) e he (.inl trivial)), _, hl⟩
  refine wpIn_mono (evC_ok hG hmix assign _ _ _ hpa hb W (muOf (N ++ Ho x)) _ W hrA ht1 hin (by simp [defersOf, hmk, marks_append, hNm])) ?_
  rintro e a1 W1 ⟨T1, H1, hk1, ht1', hs1', hd1⟩
  cases e with
  | normal =>
    obtain ⟨hm1, hro1, hbody⟩ := hk1
    have hcond : ∀ e ∈ H1, e.wr ∨ ∀ a ∈ (⟨L, 0, .obj (.loop (rec .ready none)), []⟩ :: A : Hp), a.wr → a.blk ≠ e.blk := fun e he => (roSub_mem hro1 e he).imp id fun hm a ha hw => pAH a ha e hm (.inl hw)
    have hs2 : Sat w0 mu (⟨L, 0, .obj (.loop (rec .ready none)), []⟩ :: (A ++ H1)) W1 := frame_out hs1 hs1' hcond
    have hbeg := run_beginRound (P := P) hs2.objAt (by rw [hrec])
    refine ⟨_, hbeg, ?_⟩
    have hs3 : Sat w0 mu ((⟨L, 0, .obj (.loop { rec .ready none with state := .busy }), []⟩ :: A) ++ H1) (W1.putObj L (.loop { rec .ready none with state := .busy })) := hs2.setObj rfl
    have hl3 := Sat.objAt (R := A ++ H1) hs3
    have pAH3 := (List.pairwise_append.1 hs3.apart).2.2
    have hr3 : RoundOk (some L) (W1.putObj L (.loop { rec .ready none with state := .busy })) (muOf H1) := fun l hl' => by
      cases hl'
      exact ⟨(Array.getElem?_eq_some_iff.1 hl3).1, hLmu _ (fun e he _ => pAH3 ⟨L, 0, .obj (.loop { rec .ready none with state := .busy }), []⟩ (by simp) e he (.inl trivial)), _, hl3⟩
    refine wpIn_mono (evC_ok hG hmix body _ _ _ hpb hbody _ (muOf H1) a1 _ hr3 ht1' (frame_in hs3) hd1) ?_
    have back : ∀ (H3 : Hp) (W3 : World) (x' : X), subH H3 (Ho x') → Sat (W1.putObj L (.loop { rec .ready none with state := .busy })) (muOf H1) H3 W3 →
        Sat w0 mu (⟨L, 0, .obj (.loop { rec .ready none with state := .busy }), []⟩ :: (A ++ Ho x')) W3 := fun H3 W3 x' hsub hs4 => by
      refine frame_out hs3 (hs4.sub hsub) ?_
      intro e he
      rcases hro x x' e he with h | h
      · exact .inl h
      · refine .inr fun a ha hw => ?_
        rcases List.mem_cons.1 ha with rfl | ha
        · exact pAH ⟨L, 0, .obj (.loop (rec .ready none)), []⟩ (by simp) e (List.mem_append_right _ h) (.inl trivial)
        · exact pAH a (by simp [ha]) e (List.mem_append_right _ h) (.inl hw)
    have stop : ∀ (c : Code) (H3 : Hp) (W3 : World), (∃ x', Stop c x' ∧ subH H3 (Ho x')) → Sat (W1.putObj L (.loop { rec .ready none with state := .busy })) (muOf H1) H3 W3 →
        ∃ v w', (Instr.endRound L (some c)).run P W3 = .ok v w' ∧ ∃ v' H', (Ending.returned v) = .returned v' ∧ ((v' = .bool true ∧ ∃ x', I (k + 1) x' ∧ H' = ⟨L, 0, .obj (.loop (rec .ready none)), []⟩ :: (A ++ Ho x')) ∨
      (v' = .bool false ∧ ∃ x' c, Stop c x' ∧ H' = ⟨L, 0, .obj (.loop (rec .done (some c))), []⟩ :: (A ++ Ho x'))) ∧ Sat w0 mu H' w' ∧ marksOf H' = marksOf (⟨L, 0, .obj (.loop (rec .ready none)), []⟩ :: (A ++ (N ++ Ho x))) := by
      rintro c H3 W3 ⟨x', hst, hsub⟩ hs4
      have hs5 := back H3 W3 x' hsub hs4
      refine ⟨_, _, run_endRound (P := P) (some c) hs5.objAt, .bool false, _, rfl, .inr ⟨rfl, x', c, hst, rfl⟩, ?_, by simp [marksOf, marks_append, hmk, hNm]⟩
      have := hs5.setObj (o' := .loop (rec .done (some c))) rfl
      rw [show (rec .done (some c)) = { ({ rec .ready none with state := .busy } : Loop) with state := if (some c).isNone then .ready else .done, pending := some c } by rw [hrec]; rfl] at this ⊢
      exact this
    rintro e a3 W3 ⟨T3, H3, hk3, _, hs4, _⟩
    cases e with
    | normal =>
      obtain ⟨x', hi, hsub⟩ := hk3
      have hs5 := back H3 W3 x' hsub hs4
      refine ⟨_, _, run_endRound (P := P) none hs5.objAt, .bool true, _, rfl, .inl ⟨rfl, x', hi, rfl⟩, ?_, by simp [marksOf, marks_append, hmk, hNm]⟩
      have := hs5.setObj (o' := .loop (rec .ready none)) rfl
      rw [show (rec .ready none) = { ({ rec .ready none with state := .busy } : Loop) with state := if (none : Option Code).isNone then .ready else .done, pending := none } by rw [hrec]; rfl] at this ⊢
      exact this
    | ret => exact stop .ret H3 W3 hk3 hs4
    | exit id => exact stop (.exit id) H3 W3 hk3 hs4
    | goto t => exact stop (.goto t) H3 W3 hk3 hs4
    | panic c => exact hk3.elim
    | outgrown => exact hk3.elim
  | _ => exact hk1.elim
theorem rangeN {P : Program} {G : Gam} (hG : GamOk P G) (hmix : P.follows .mixedOrders = true) {pl : Plans} {n : Nat} {g : Operand} {ps : Array Tmp} {assign body : Code} {K : Exit → Tm → Hp → Prop} {T : Tm} {H : Hp} {gf : FuncId} {caps : List Value} {Hc Hm : Hp} {num : Nat} {V : Nat → List Value → Hp → Prop}
    (hit : IterN P gf caps Hc num V) (hg : opd T g = some (.func (.func gf) #[] caps.toArray)) {X : Type} (Ho : X → Hp) (I : Nat → X → Prop) (Stop : Code → X → Prop) (x0 : X) (h0 : I 0 x0)
    (hH : subH H (Hc ++ (Hm ++ Ho x0))) (hmH : marksOf H = marksOf Hm) (hmc : marksOf Hc = []) (hmm : ∀ e ∈ Hm, e.wr) (hmk : ∀ x, marksOf (Ho x) = []) (hro : ∀ x y, ∀ e ∈ Ho y, e.wr ∨ e ∈ Ho x) (hps : ∀ k args N, V k args N → args.length = ps.size) (hpa : plansOk pl assign = true) (hpb : plansOk pl body = true) (hpc : ∀ c x, Stop c x → plansOk pl c = true)
    (hb : ∀ l k x args N, k < num → V k args N → allWr N → marksOf N = [] → freshN N (Ho x) → I k x → evC P G pl (some l) n assign (thenK (fun T' H' => marksOf H' = [] ∧ roSub H' (N ++ Ho x) ∧ evC P G pl (some l) n body (roundK Ho I Stop k) T' H') (fun _ _ _ => False)) (parT n T ps.toList args) (N ++ Ho x))
    (done : ∀ D x, fresh D (Hm ++ Ho x) → I num x → K .normal T (⟨D, 0, .obj (.deferred (some [])), []⟩ :: (Hm ++ Ho x)))
    (stop : ∀ D c x, fresh D (Hm ++ Ho x) → Stop c x → evC P G pl none n c K T (⟨D, 0, .obj (.deferred (some [])), []⟩ :: (Hm ++ Ho x))) : WpV P none n (.rangeFunc g ps assign body) K T H := by
  intro w0 mu a w hr ht hs hd
  have hs0 : Sat w0 mu (Hc ++ (Hm ++ Ho x0)) w := hs.sub hH
  refine wpIn_rangeFunc ?_
  intro fn _
  obtain ⟨rec, hrec⟩ : ∃ rec : LoopState → Option Code → Loop, rec = fun st pe => { state := st, pending := pe, fn, tmps := a.tmps, params := ps, assign, body, defers := w.heap.size } := ⟨_, rfl⟩
  have hrec' : rec = fun st pe => { state := st, pending := pe, fn, tmps := a.tmps, params := ps, assign, body, defers := (rec .ready none).defers } := by rw [hrec]
  let W1 : World := (w.alloc (.deferred (some []))).alloc (.loop (rec .ready none))
  have hsz : (w.alloc (.deferred (some []))).heap.size = w.heap.size + 1 := by simp
  have hsD : Sat w0 mu (⟨w.heap.size, 0, .obj (.deferred (some [])), []⟩ :: (Hc ++ (Hm ++ Ho x0))) (w.alloc (.deferred (some []))) := by
    refine hs0.alloc rfl ?_
    unfold Ent.holds
    exact ⟨rfl, World.alloc_heap_new _ _, rfl⟩
  have hsL : Sat w0 mu (⟨w.heap.size + 1, 0, .obj (.loop (rec .ready none)), []⟩ :: ⟨w.heap.size, 0, .obj (.deferred (some [])), []⟩ :: (Hc ++ (Hm ++ Ho x0))) W1 := by
    refine hsD.alloc hsz.symm ?_
    unfold Ent.holds
    exact ⟨rfl, by have := World.alloc_heap_new (w.alloc (.deferred (some []))) (.loop (rec .ready none)); rwa [hsz] at this, rfl⟩
  let De : Ent := ⟨w.heap.size, 0, .obj (.deferred (some [])), []⟩
  let Ho' : X × Option Code → Hp := fun y => ⟨w.heap.size + 1, 0, .obj (.loop (rec (if y.2.isNone then .ready else .done) y.2)), []⟩ :: Ho y.1
  have hsC : Sat w0 mu ((De :: Hm) ++ (Hc ++ Ho' (x0, none))) W1 := by
    refine hsL.perm ?_
    show List.Perm (_ :: De :: (Hc ++ (Hm ++ Ho x0))) (De :: (Hm ++ (Hc ++ (_ :: Ho x0))))
    refine (List.Perm.swap _ _ _).trans (List.Perm.cons _ ?_)
    refine List.Perm.trans (List.Perm.cons _ ?_) (show List.Perm (_ :: (Hm ++ (Hc ++ Ho x0))) (Hm ++ (Hc ++ (_ :: Ho x0))) from ?_)
    · rw [← List.append_assoc, ← List.append_assoc]
      exact List.Perm.append_right _ List.perm_append_comm
    · rw [← List.append_assoc, ← List.append_assoc]
      exact (List.perm_middle (l₁ := Hm ++ Hc)).symm
  have hmarks : ∀ y, marksOf (Ho' y) = [] := fun y => by
    show marksOf ((⟨w.heap.size + 1, 0, .obj (.loop _), []⟩ : Ent) :: Ho y.1) = _
    simp [marksOf, hmk]
  have hcall := hit.2 (X × Option Code) Ho' (fun k y => I k y.1 ∧ y.2 = none) (fun y => ∃ c, y.2 = some c ∧ Stop c y.1) (w.heap.size + 1) (x0, none)
    (fun x y e he => by
      rcases List.mem_cons.1 he with rfl | he
      · exact .inl trivial
      · exact (hro x.1 y.1 e he).imp id fun h => List.mem_cons_of_mem _ h)
    hmarks ⟨h0, rfl⟩
    (fun k y args N hkn hV hNw hNm hi => by
      obtain ⟨x, j⟩ := y
      obtain ⟨hi, rfl⟩ := hi
      intro w0' mu' W hsW
      have hsW' : Sat w0' mu' (⟨w.heap.size + 1, 0, .obj (.loop (rec .ready none)), []⟩ :: ([] ++ (N ++ Ho x))) W := hsW.perm List.perm_middle
      have hfr : freshN N (Ho x) := freshN_of fun e he z hz => by
        have := (List.pairwise_append.1 hsW.apart).2.2 e he z (List.mem_cons_of_mem _ hz) (.inl (allWr_mem hNw e he))
        exact fun h => this h.symm
      have hround := round_okN hG hmix (Ho := Ho) (I := I) (Stop := Stop) (a := a) (L := w.heap.size + 1) (A := []) hNm hrec' ht (hps k args N hV) hmk hro k x hpa hpb (hb (w.heap.size + 1) k x args N hkn hV hNw hNm hfr hi)
      obtain ⟨fn', tmps', as', bd', h1, h2⟩ := hround w0' mu' W hsW'
      refine ⟨fn', tmps', as', bd', h1, h2.mono ?_⟩
      rintro e W' ⟨v, H', rfl, hv, hs', hm'⟩
      refine ⟨v, H', rfl, ?_, hs', hm'.trans (by simp [Ho', marksOf, marks_append, hNm, hmk])⟩
      rcases hv with ⟨rfl, x', hi', rfl⟩ | ⟨rfl, x', c, hst, rfl⟩
      · exact .inl ⟨rfl, (x', none), ⟨hi', rfl⟩, rfl⟩
      · exact .inr ⟨rfl, (x', some c), ⟨c, rfl, hst⟩, rfl⟩)
  refine ⟨w.heap.size + 1, [{ target := .collected w.heap.size, args := #[] }], W1, { target := .fn (.func gf) caps.toArray, args := #[.func (.yield (w.heap.size + 1)) #[] #[]] }, W1, gf,
    #[.func (.yield (w.heap.size + 1)) #[] #[]] ++ caps.toArray, W1, ?_, ?_, fun _ _ => trivial, ?_, fun hh => by simp [Fr] at hh, ?_⟩
  · rw [show W1 = (w.alloc (.deferred (some []))).alloc (.loop (rec .ready none)) from rfl, hrec]; exact run_enterLoop_outer _ _ _ _ _
  · have hge := opd_eval ht hg
    have hce : ∀ v, a.eval (.const v) = v := fun _ => rfl
    simp [resolve, rangeCall, hge, hce, Deferred.ofValue]
  · simp [invoke, hit.1]
  · have hcl := hcall.2 W1 (muOf (Hc ++ Ho' (x0, none))) W1 (frame_in hsC)
    rw [show (Value.func (.yield (w.heap.size + 1)) #[] #[] :: caps).toArray = #[Value.func (.yield (w.heap.size + 1)) #[] #[]] ++ caps.toArray by rw [← Array.toList_inj]; simp] at hcl
    refine CallsIn.mono (F := Fr none) (n := 0) hcl ?_
    rintro e W2 ⟨v, H', rfl, ⟨⟨x, j⟩, hend, rfl⟩, hs2', _⟩
    have pAH := (List.pairwise_append.1 hsC.apart).2.2
    have hs2'' : Sat w0 mu ((De :: Hm) ++ Ho' (x, j)) W2 := frame_out hsC hs2' (fun e he => by
      rcases List.mem_cons.1 he with rfl | he
      · exact .inl trivial
      · rcases hro x0 x e he with h | h
        · exact .inl h
        · exact .inr fun a ha hw => pAH a ha e (List.mem_append_right _ (List.mem_cons_of_mem _ h)) (.inl hw))
    have hs2 : Sat w0 mu (⟨w.heap.size + 1, 0, .obj (.loop (rec (if j.isNone then .ready else .done) j)), []⟩ :: ((De :: Hm) ++ Ho x)) W2 := hs2''.perm List.perm_middle
    have hstate : ((rec (if j.isNone then .ready else .done) j)).state ≠ .busy := by rw [hrec]; cases j <;> simp
    have hend1 := run_endLoop (P := P) (r := rec (if j.isNone then .ready else .done) j) hs2.objAt hstate
    have hpend : (rec (if j.isNone then .ready else .done) j).pending = j := by rw [hrec]
    rw [hpend] at hend1
    refine ⟨j, _, hend1, ?_⟩
    have hs3 : ∀ o', Sat w0 mu (De :: (Hm ++ Ho x)) (W2.putObj (w.heap.size + 1) o') := fun o' => hs2.dropObj
    have hfr : fresh w.heap.size (Hm ++ Ho x) := by
      obtain ⟨p1, _⟩ := List.pairwise_cons.1 (hs3 (.deferred none)).apart
      exact fresh_of fun e he hh => p1 e he (.inl trivial) hh.symm
    have ht3 : TRel n T { a with defers := [{ target := .collected w.heap.size, args := #[] }] ++ a.defers } := ⟨ht.size, ht.get⟩
    have hd3 : ([{ target := .collected w.heap.size, args := #[] }] ++ a.defers : List Deferred) = defersOf (De :: (Hm ++ Ho x)) := by
      rw [hd]
      simp [defersOf, marksOf, De, marks_append, hmk, hmH]
    rcases hend with ⟨hi, hj⟩ | ⟨c, hj, hst⟩
    · dsimp only at hj
      subst hj
      exact ⟨T, _, done w.heap.size x hfr hi, ht3, hs3 _, hd3⟩
    · dsimp only at hj
      subst hj
      exact evC_ok hG hmix c K T _ (hpc c x hst) (stop w.heap.size c x hfr hst) w0 mu _ _ (RoundOk.none_ _ _) ht3 (hs3 _) hd3
theorem rangeNO {P : Program} {G : Gam} (hG : GamOk P G) (hmix : P.follows .mixedOrders = true) {pl : Plans} {n : Nat} {g : Operand} {ps : Array Tmp} {assign body : Code} {K : Exit → Tm → Hp → Prop} {T : Tm} {H : Hp} {gf : FuncId} {caps : List Value} {Hc Hm : Hp} {num : Nat} {V : Nat → List Value → Hp → Prop}
    (hit : IterN P gf caps Hc num V) (hg : opd T g = some (.func (.func gf) #[] caps.toArray)) {X : Type} (Ho : X → Hp) (I : Nat → X → Prop) (Stop : Code → X → Prop) (x0 : X) (h0 : I 0 x0)
    (hH : subH H (Hc ++ (Hm ++ Ho x0))) (hmH : marksOf H = marksOf Hm) (hmc : marksOf Hc = []) (hmm : ∀ e ∈ Hm, e.wr) (hmk : ∀ x, marksOf (Ho x) = []) (hro : ∀ x y, ∀ e ∈ Ho y, e.wr ∨ e ∈ Ho x) (hps : ∀ k args N, V k args N → args.length = ps.size) (hpa : plansOk pl assign = true) (hpb : plansOk pl body = true) (hpc : ∀ c x, Stop c x → plansOk pl c = true)
    (hb : ∀ l k x args N, k < num → V k args N → allWr N → marksOf N = [] → freshN N (Ho x) → I k x → oC P G pl (some l) n assign (thenK (bKont P G pl (some l) n body (roundK Ho I Stop k) (N ++ Ho x)) (fun _ _ _ => False)) (parT n T ps.toList args) (N ++ Ho x))
    (done : ∀ D x, fresh D (Hm ++ Ho x) → I num x → K .normal T (⟨D, 0, .obj (.deferred (some [])), []⟩ :: (Hm ++ Ho x)))
    (stop : ∀ D c x, fresh D (Hm ++ Ho x) → Stop c x → oC P G pl none n c K T (⟨D, 0, .obj (.deferred (some [])), []⟩ :: (Hm ++ Ho x))) : WpV P none n (.rangeFunc g ps assign body) K T H := by
  unfold bKont at hb
  simp only [oC_eq] at hb stop
  exact rangeN hG hmix hit hg Ho I Stop x0 h0 hH hmH hmc hmm hmk hro hps hpa hpb hpc hb done stop
end Go.Ev
set_option linter.unusedSimpArgs false
set_option linter.unusedVariables false
namespace Go.Ev
def itTx (l : List UInt8) : It := .mk false l []
noncomputable def itNm (w : W) : It := .mk false (numL w) []
noncomputable def itS (s : Sl) : It := .mk true [] [itNm s.key, itNm s.val]
noncomputable def itA (a : Ac) : It := .mk true [] [itTx a.at_.l, itNm (W.ofInt a.nonce), itNm a.bal, itTx a.code.data.toList, .mk true [] (a.slots.map itS)]
noncomputable def itSt (s : List Ac) : It := .mk true [] (s.map itA)
def ivTx (l : List UInt8) : Iv := .mk false l (.slice none 0 0) []
theorem ivTx_ok (M : Hp) (l : List UInt8) : IvOk M (ivTx l) := IvOk.text M l false 0
theorem ivTx_it (l : List UInt8) : (ivTx l).it = itTx l := by unfold ivTx itTx; simp only [Iv.it, Iv.its]
def ivLs (sv : Value) (ks : List Iv) : Iv := .mk true [] sv ks
theorem ivLs_it (sv : Value) (ks : List Iv) : (ivLs sv ks).it = .mk true [] (ks.map Iv.it) := by unfold ivLs; simp only [Iv.it]; rw [Iv.its_map]
theorem ivLs_ok {M : Hp} {sv : Value} {ks : List Iv} (h1 : LiR Iv.cells 3 M ks sv) (h2 : ks.length ≤ 1099511627776) (h3 : ∀ k ∈ ks, IvOk M k) : IvOk M (ivLs sv ks) := .mk _ h1 h2 h3
def rlistG : List Value → Option Value
  | [.slice p n c] => some (.agg #[.bool true, .string (bs []), .slice p n c])
  | _ => none
attribute [push_cast] rlistG
theorem LiR.vecI {ks : List Iv} {b n e cap : Nat} {H : Hp} (hn : n = ks.length) : LiR Iv.cells 3 (⟨b, 0, .vec e 3 cap, ks.flatMap Iv.cells⟩ :: H) ks (.slice (some ⟨b, 0, none⟩) n cap) := by
  subst hn
  refine ⟨_, _, rfl, .inr ⟨b, 0, rfl, ?_⟩⟩
  have hl : (ks.flatMap Iv.cells).length = ks.length * 3 := flatMap_len Iv.len ks
  unfold cellsAt
  simp only [findE, if_true, Nat.sub_zero, subL, List.drop_zero, Nat.zero_add, Nat.le_refl, hl]
  rw [List.take_of_length_le (Nat.le_of_eq hl)]
def ItQ (t : It) : Value → Hp → Prop := fun v H => ∃ x : Iv, v = x.v ∧ x.it = t ∧ IvOk H x
def ItsQ (l : List It) : Value → Hp → Prop := fun v H => ∃ ks : List Iv, ks.map Iv.it = l ∧ LiR Iv.cells 3 H ks v ∧ ∀ k ∈ ks, IvOk H k
theorem freshN_nilR : ∀ N : Hp, freshN N []
  | [] => trivial
  | e :: r => ⟨trivial, freshN_nilR r⟩
theorem Ext.leftN {N M : Hp} (h1 : marksOf N = []) (h2 : marksOf M = []) : Ext N (N ++ M) := by
  refine ⟨by rw [marks_append, h1, h2]; rfl, fun b o n l h => ?_⟩
  unfold cellsAt at h ⊢
  cases hf : findE N b with
  | none => rw [hf] at h; cases h
  | some e => rw [findE_appT hf]; rw [hf] at h; exact h
theorem Ext.rightN {N M : Hp} (hf : freshN N M) (h1 : marksOf N = []) (h2 : marksOf M = []) : Ext M (N ++ M) := by
  refine ⟨by rw [marks_append, h1, h2]; rfl, fun b o n l h => ?_⟩
  unfold cellsAt at h ⊢
  cases hm : findE M b with
  | none => rw [hm] at h; cases h
  | some e => rw [findE_freshN hf hm, hm]; rw [hm] at h; exact h
def CallsO (P : Program) (g : FuncId) (args : List Value) (M : Hp) (Q : Value → Hp → Prop) : Prop :=
  ∀ M0, roM M0 → cellsAt M0 = cellsAt M → CallsV P g args M0 (fun v N => allWr N ∧ marksOf N = [] ∧ Q v N)
theorem callO {P : Program} {g : FuncId} {args : List Value} {M Y : Hp} {Q : Value → Hp → Prop} {K' : Value → Hp → Prop} (hc : CallsO P g args M Q) (hd : ∀ b e, findE M b = some e → findE Y b = some e)
    (hk : ∀ v N, allWr N → marksOf N = [] → freshN N Y → Q v N → K' v (N ++ Y)) : CallsV P g args Y K' :=
  (hc (roAll M) (roAll_ro M) (cellsAt_roAll M)).use (derE_sub hd) fun v N ⟨h1, h2, h3⟩ => ⟨h1, h2, fun hf => hk v N h1 h2 hf h3⟩
end Go.Ev
namespace Go.Proofs.YtpcjmmdgopihcaaGreatDoor
open Go Go.Ev Go.Proofs
set_option maxRecDepth 100000
set_option maxHeartbeats 4000000
theorem rlist_ok (p : Option Addr) (n c : Nat) : CallsV Tryz.prog 53 [.slice p n c] [] (Ret0 (.agg #[.bool true, .string (bs []), .slice p n c])) := by
  refine callsO gN3_ok Tryz.mix Tryz.pl53 Tryz.func53 rfl Tryz.ntmps53 Tryz.results53 rfl (by first | rfl | assumption) (Nat.le_of_ble_eq_true rfl) (by kernel_rfl) ?_
  simp only [push_cast, seval, reduceCtorEq]
  try exact rfl
theorem rlistG_ok (args : List Value) (v : Value) (h : rlistG args = some v) : CallsV Tryz.prog 53 args [] (Ret0 v) := by
  unfold rlistG at h
  split at h
  · cases h; exact rlist_ok _ _ _
  · cases h
noncomputable def gN4 : Gam := (addG 53 rlistG gN3)
attribute [push_cast] gN4
theorem gN4_ok : GamOk Tryz.prog gN4 := (addG_ok rlistG_ok gN3_ok)
attribute [push_cast] gN4
theorem slotItem_ok (s : Sl) : CallsV Tryz.prog 74 [s.v] [] (NewK [] (ItQ (itS s))) := by
  have t1 : List.take 4 s.cells = s.key.cells := rfl
  have t2 : List.take 4 (List.drop 4 s.cells) = s.val.cells := rfl
  have va : ∀ w : W, Value.agg w.cells.toArray = w.v := fun _ => rfl
  have hA : ∀ w : W, (Value.agg #[Value.bool false, Value.string (bs (numL w)), Value.slice none 0 0]) = (ivTx (numL w)).v := fun _ => rfl
  refine callsO gN4_ok Tryz.mix Tryz.pl74 Tryz.func74 rfl Tryz.ntmps74 Tryz.results74 rfl (by first | rfl | assumption) (Nat.le_of_ble_eq_true rfl) (by kernel_rfl) ?_
  simp only [push_cast, seval, reduceCtorEq]
  intro b1 b2 hb2
  simp only [push_cast, seval, reduceCtorEq, hb2, t1, t2, va, Sl.len]
  intro b3 hb3
  simp only [push_cast, seval, reduceCtorEq, hb2, hb3]
  have hks : ([ivTx (numL s.key), ivTx (numL s.val)] : List Iv).flatMap Iv.cells = [.bool false, .string (bs (numL s.key)), .slice none 0 0, .bool false, .string (bs (numL s.val)), .slice none 0 0] := rfl
  have hkm : ∀ (H : Hp), ∀ k ∈ ([ivTx (numL s.key), ivTx (numL s.val)] : List Iv), IvOk H k := fun H k hk => by
    simp only [List.mem_cons, List.not_mem_nil, or_false] at hk
    rcases hk with rfl | rfl <;> exact ivTx_ok _ _
  refine ⟨[_], List.cons_sublist_cons.2 (List.nil_sublist _), ⟨trivial, trivial⟩, rfl, fun _ => ⟨ivLs (.slice (some ⟨b3, 0, none⟩) 2 2) [ivTx (numL s.key), ivTx (numL s.val)], rfl, ?_, ?_⟩⟩
  · rw [ivLs_it]
    simp only [List.map_cons, List.map_nil, ivTx_it]
    rfl
  · refine ivLs_ok ?_ (show 2 ≤ 1099511627776 by decide) (hkm _)
    rw [← hks]
    exact LiR.vecI rfl
theorem mappedS_ok {M : Hp} {l : List Sl} {v : Value} (hl : LiR Sl.cells 8 M l v) (hn : l.length ≤ 1099511627776) : CallsO Tryz.prog 79 [v, .func (.func 74) #[] #[]] M (ItsQ (l.map itS)) := by
  intro M0 hr he
  have hm := hr.marks
  replace hl := hl.congr he.symm
  obtain ⟨p, k, rfl, hla⟩ := hl.openC Sl.len (by decide)
  refine callsO gN4_ok Tryz.mix Tryz.pl79 Tryz.func79 rfl Tryz.ntmps79 Tryz.results79 rfl (by first | rfl | assumption) (Nat.le_of_ble_eq_true rfl) (by kernel_rfl) ?_
  simp only [push_cast, seval, reduceCtorEq]
  refine loopO gN4_ok (pl := Tryz.pl79) Tryz.mix (X := {x : Nat × Value × Hp × List Iv × Hp // allWr x.2.2.2.2 ∧ marksOf x.2.2.2.2 = []})
    (fun x => ([(1, .func (.func 74) #[] #[]), (5, x.1.2.1), (8, .slice p l.length k), (9, .int .i64 l.length), (10, .int .i64 x.1.1)], x.1.2.2.1 ++ (x.1.2.2.2.2 ++ M0)))
    (fun x => x.1.1 ≤ l.length ∧ x.1.2.2.2.1.map Iv.it = (l.take x.1.1).map itS ∧ OutC 90 3 (x.1.2.2.2.1.flatMap Iv.cells) x.1.2.2.2.1.length x.1.2.1 x.1.2.2.1 ∧ freshN x.1.2.2.1 (x.1.2.2.2.2 ++ M0) ∧ freshN x.1.2.2.2.2 M0 ∧ ∀ y ∈ x.1.2.2.2.1, IvOk x.1.2.2.2.2 y) (fun x => l.length - x.1.1) ⟨(0, .slice none 0 0, [], [], []), trivial, rfl⟩ ?_ ?_ (by kernel_rfl) ?_
  · exact ⟨Nat.zero_le _, rfl, .nil _ _, trivial, trivial, fun y hy => by cases hy⟩
  · simp only [push_cast, seval, reduceCtorEq]
    first | done | exact rfl | exact ⟨rfl, subH_self _⟩ | exact subH_self _
  · rintro ⟨⟨i, vo, No, ks, W'⟩, hW, hWm⟩ ⟨hi, hks, ho, hf, hfW, hok⟩
    dsimp only at hi hks ho hf hfW hok hW hWm ⊢
    have hmW : marksOf (W' ++ M0) = [] := by rw [marks_append, hWm, hm]; rfl
    have hmA : marksOf (No ++ (W' ++ M0)) = [] := by rw [marks_append, ho.wr.2, hmW]; rfl
    have hkl : ks.length = i := by
      have := congrArg List.length hks
      rw [List.length_map, List.length_map, List.length_take, Nat.min_eq_left hi] at this
      exact this
    rcases Nat.lt_or_ge i l.length with hlt | hge
    · obtain ⟨s, hs⟩ : ∃ s, l[i]? = some s := ⟨l[i], List.getElem?_eq_getElem hlt⟩
      rcases hla with rfl | ⟨b, f, d, kd, cs, rfl, hfe, hat⟩
      · simp at hs
      obtain ⟨a1, a2⟩ := hat i s hs
      have hee : findE (No ++ (W' ++ M0)) b = some ⟨b, f, kd, cs⟩ := find_behindN hf b _ (find_behindN hfW b _ hfe)
      have i1 : (i : Int) < (l.length : Int) := by omega
      have sall : s.cells.all oneC = true := rfl
      have s8 : List.take 8 s.cells = s.cells := List.take_of_length_le (Nat.le_of_eq rfl)
      obtain ⟨po, ko, rfl⟩ := ho.slice
      simp only [push_cast, seval, reduceCtorEq, i1, hlt, hee, a1, a2, sall, s8, Sl.len]
      intro b7 hb7
      try simp only [push_cast, seval, reduceCtorEq, s8, Sl.len]
      refine (slotItem_ok s).use trivial ?_
      rintro v N ⟨hN1, hN2, hN3⟩
      obtain ⟨x, rfl, hxi, hxo⟩ := hN3 (freshN_nilR N)
      rw [List.append_nil] at hxo
      refine ⟨hN1, hN2, fun hfn => ?_⟩
      have xall : x.cells.all oneC = true := Iv.all1 hxo.one
      have xv : x.v.cells.toList = x.cells := rfl
      simp only [push_cast, seval, reduceCtorEq, xv, Iv.len, xall]
      intro b18 hb18
      obtain ⟨E7, hE7⟩ : ∃ E : Ent, E = ⟨b7, 0, .cel 67, s.cells⟩ := ⟨_, rfl⟩
      rw [← hE7] at hb18 hfn ⊢
      have f18 := (fresh_app hb18).2.2
      have f7 : fresh E7.blk (No ++ (W' ++ M0)) := by rw [hE7]; exact hb7
      have fNX := freshN_cons hfn
      have fN : ∀ {A : Hp} {B : Hp}, freshN N (A ++ B) → freshN N A ∧ freshN N B := fun h => ⟨freshN_iff.2 fun e he x hx => freshN_iff.1 h e he x (List.mem_append_left _ hx), freshN_iff.2 fun e he x hx => freshN_iff.1 h e he x (List.mem_append_right _ hx)⟩
      rw [show (N ++ E7 :: (No ++ (W' ++ M0)) : Hp) = (N ++ [E7]) ++ (No ++ (W' ++ M0)) by simp]
      refine push_outA (c := Iv.cells) (x := x) (by_ := 48) (q := 3) (ag := true) (N ++ [E7]) ho ⟨(fresh_app_iff.1 f18).1, freshN_appL.2 ⟨(fN fNX).1, (fresh_app_iff.1 f7).1, trivial⟩⟩ (by simp only [push_cast, seval, reduceCtorEq]) (by simp only [push_cast, seval, reduceCtorEq]) (Iv.len _) xall (by unfold two47; omega) fun v' N' ho' hf' => ?_
      simp only [push_cast, seval, reduceCtorEq, wrap_i64' (show -9223372036854775808 ≤ (i : Int) + 1 ∧ (i : Int) + 1 ≤ 9223372036854775807 by omega)]
      have hfW2 : freshN (⟨b18, 0, .vec 90 3 1, x.cells⟩ :: ((N ++ [E7]) ++ W')) M0 := ⟨(fresh_app_iff.1 (fresh_app_iff.1 f18).2).2, freshN_appL.2 ⟨freshN_appL.2 ⟨(fN (fN fNX).2).2, (fresh_app_iff.1 (fresh_app_iff.1 f7).2).2, trivial⟩, hfW⟩⟩
      have mE : marksOf [E7] = [] := by rw [hE7]; rfl
      have hmN7 : marksOf (N ++ [E7]) = [] := by rw [marks_append, hN2, mE]; rfl
      have hmW2 : marksOf ((N ++ [E7]) ++ W') = [] := by rw [marks_append, hmN7, hWm]; rfl
      refine ⟨⟨(i + 1, v', N', ks ++ [x], ⟨b18, 0, .vec 90 3 1, x.cells⟩ :: ((N ++ [E7]) ++ W')), ⟨trivial, allWr_app (allWr_app hN1 (by rw [hE7]; exact ⟨trivial, trivial⟩)) hW⟩, ?_⟩, ⟨hlt, ?_, ho', ?_, hfW2, fun y hy => ?_⟩, by dsimp only; omega, ?_⟩
      · exact hmW2
      · rw [List.map_append, hks, List.take_add_one, hs, List.map_append]; simp [hxi]
      · show freshN N' ((⟨b18, 0, .vec 90 3 1, x.cells⟩ :: ((N ++ [E7]) ++ W')) ++ M0)
        rw [List.cons_append, List.append_assoc]; exact hf'
      · show IvOk (⟨b18, 0, .vec 90 3 1, x.cells⟩ :: ((N ++ [E7]) ++ W')) y
        rcases List.mem_append.1 hy with hy | hy
        · exact (hok y hy).ext (Ext.rightN (N := ⟨b18, 0, .vec 90 3 1, x.cells⟩ :: (N ++ [E7])) ⟨(fresh_app_iff.1 (fresh_app_iff.1 f18).2).1, freshN_appL.2 ⟨(fN (fN fNX).2).1, (fresh_app_iff.1 (fresh_app_iff.1 f7).2).1, trivial⟩⟩ hmN7 hWm)
        · rw [List.mem_singleton.1 hy]
          have e1 : Ext N ((N ++ [E7]) ++ W') := by rw [List.append_assoc]; exact Ext.leftN hN2 (by rw [marks_append, mE, hWm]; rfl)
          exact (hxo.ext e1).ext (Ext.cons e1.marks rfl (fresh_app_iff.2 ⟨fresh_app_iff.2 ⟨(fresh_app_iff.1 hb18).1, (fresh_app hb18).1, (fresh_app hb18).2.1, trivial⟩, (fresh_app_iff.1 (fresh_app_iff.1 f18).2).1⟩))
      · simp only [List.cons_append, List.append_assoc, List.nil_append]
        exact ⟨⟨trivial, rfl⟩, subH_self _, trivial⟩
    · obtain rfl : i = l.length := by omega
      rw [List.take_length] at hks
      simp only [push_cast, seval, reduceCtorEq, Int.lt_irrefl]
      have hfNW : freshN No W' := freshN_iff.2 fun e he x hx => freshN_iff.1 hf e he x (List.mem_append_left _ hx)
      refine ⟨No ++ W', ?_, allWr_app ho.wr.1 hW, by rw [marks_append, ho.wr.2, hWm]; rfl, ks, hks, ?_, fun y hy => ?_⟩
      · rw [dropM_eq hmA, ← List.append_assoc]; exact List.sublist_append_left _ _
      · exact ho.liR rfl rfl _
      · exact (hok y hy).ext (Ext.rightN hfNW ho.wr.2 hWm)
end Go.Proofs.YtpcjmmdgopihcaaGreatDoor
set_option linter.unusedSimpArgs false
set_option linter.unusedVariables false
namespace Go.Ev
def byC (x : UInt8) : List Value := [.int .u8 x.toNat]
theorem byC_len (x : UInt8) : (byC x).length = 1 := rfl
theorem byV_len (l : List UInt8) : (byteV l).length = l.length := by unfold byteV; rw [List.length_map]
theorem byV_flat (l : List UInt8) : l.flatMap byC = byteV l := by
  induction l with
  | nil => rfl
  | cons x r ih => rw [List.flatMap_cons, ih]; rfl
def lowN : List UInt8 → Nat
  | [] => 0
  | x :: r => x.toNat + 256 * lowN r
theorem lowN_lt : ∀ (r : List UInt8), lowN r < 256 ^ r.length
  | [] => by decide
  | x :: r => by
    have h := lowN_lt r
    have hx := x.toNat_lt
    rw [List.length_cons, Nat.pow_succ]
    show x.toNat + 256 * lowN r < _
    have : 256 * (lowN r + 1) ≤ 256 * 256 ^ r.length := Nat.mul_le_mul_left _ h
    rw [Nat.mul_comm (256 ^ r.length)]
    omega
theorem lowN_take (r : List UInt8) : ∀ {i : Nat} (h : i < r.length), lowN (r.take (i + 1)) = lowN (r.take i) + (r[i]).toNat * 256 ^ i := by
  induction r with
  | nil => intro i h; exact absurd h (Nat.not_lt_zero _)
  | cons x r ih =>
    intro i h
    cases i with
    | zero => simp [lowN]
    | succ i =>
      simp only [List.take_succ_cons, lowN, List.getElem_cons_succ]
      have e : ∀ a p : Nat, 256 * (a * p) = a * (p * 256) := fun a p => by rw [← Nat.mul_assoc, Nat.mul_comm 256 a, Nat.mul_assoc, Nat.mul_comm 256 p]
      rw [ih (by simpa using h), Nat.pow_succ, Nat.mul_add, e, Nat.add_assoc]
theorem or_shl8 {x c r : Nat} (hr : r < 8) (hx : x < 256 ^ r) (hc : c < 256) : bitsI .or .u64 (x : Int) (shlI .u64 (c : Int) (8 * (r : Int))) = ((x + c * 256 ^ r : Nat) : Int) ∧ x + c * 256 ^ r < 18446744073709551616 := by
  have e8 : (256 : Nat) ^ r = 2 ^ (8 * r) := by rw [Nat.pow_mul]
  have hle : (256 : Nat) ^ r ≤ 256 ^ 7 := Nat.pow_le_pow_right (by decide) (by omega)
  have hc2 : c * 256 ^ r ≤ 255 * 256 ^ r := Nat.mul_le_mul_right _ (by omega)
  have hlt : x + c * 256 ^ r < 256 * 256 ^ r := by omega
  have h64 : 256 * 256 ^ r ≤ 18446744073709551616 := by
    have := Nat.mul_le_mul_left 256 hle
    exact Nat.le_trans this (by decide)
  refine ⟨?_, by omega⟩
  have es : shlI .u64 (c : Int) (8 * (r : Int)) = ((c * 256 ^ r : Nat) : Int) := by
    unfold shlI
    rw [IntKind.wrap_u64, show (8 * (r : Int)).toNat = 8 * r by omega, show min (8 * r) IntKind.u64.bits = 8 * r by show min (8 * r) 64 = 8 * r; omega]
    rw [show (2 : Int) ^ (8 * r) = ((256 ^ r : Nat) : Int) by rw [e8, Int.natCast_pow]; rfl, ← Int.natCast_mul]
    omega
  rw [es]
  have h := bits_or_u64_nat x (c * 256 ^ r) (by omega) (by omega)
  have e : x ||| c * 256 ^ r = x + c * 256 ^ r := by
    rw [Nat.or_comm, Nat.mul_comm, e8, ← Nat.two_pow_add_eq_or_of_lt (by rw [← e8]; exact hx), Nat.add_comm]
  rw [e] at h
  exact h
def padJ (l : List UInt8) (j : Nat) : List UInt8 := l ++ 1 :: List.replicate j 0
theorem padJ_0 (l : List UInt8) : padJ l 0 = l ++ [1] := rfl
theorem padJ_s (l : List UInt8) (j : Nat) : padJ l (j + 1) = padJ l j ++ [0] := by
  unfold padJ
  rw [List.replicate_succ', List.append_assoc, List.cons_append]
theorem padJ_len (l : List UInt8) (j : Nat) : (padJ l j).length = l.length + 1 + j := by
  unfold padJ
  rw [List.length_append, List.length_cons, List.length_replicate]; omega
theorem byV_at {a : List UInt8} {i : Nat} (h : i < a.length) : List.take 1 (List.drop i (byteV a)) = [.int .u8 ((a.getD i 0).toNat : Nat)] := by
  unfold byteV
  rw [← List.map_drop, ← List.map_take, List.drop_eq_getElem_cons h, List.take_succ_cons, List.take_zero, List.map_cons, List.map_nil, List.getD_eq_getElem?_getD, List.getElem?_eq_getElem h, Option.getD_some]
theorem byV_set {a : List UInt8} {i : Nat} {x : UInt8} (h : i < a.length) : List.take i (byteV a) ++ .int .u8 (x.toNat : Nat) :: List.drop (i + 1) (byteV a) = byteV (a.set i x) := by
  unfold byteV
  rw [List.set_eq_take_append_cons_drop, if_pos h, List.map_append, List.map_cons, List.map_take, List.map_drop]
def padJ_many (n : Nat) : Nat := (136 - (n + 1) % 136) % 136
def orL (L : List UInt8) : List UInt8 := L.set (L.length - 1) (L.getD (L.length - 1) 0 ||| 128)
noncomputable def padK (l : List UInt8) : List UInt8 := orL (padJ l (padJ_many l.length))
theorem padK_len (l : List UInt8) : (padK l).length = l.length + 1 + padJ_many l.length := by
  unfold padK orL
  rw [List.length_set, padJ_len]
theorem padK_mod (l : List UInt8) : (padK l).length % 136 = 0 := by
  rw [padK_len]
  unfold padJ_many
  omega
theorem or128 : ∀ x < 256, bitsI .or .u8 ((x : Nat) : Int) 128 = ((x ||| 128 : Nat) : Int) := by decide +kernel
end Go.Ev
namespace Go.Proofs.YtpcjmmdgopihcaaGreatDoor
open Go Go.Ev Go.Proofs
set_option maxRecDepth 100000
set_option maxHeartbeats 4000000
theorem low_ok {M : Hp} {l : List UInt8} {v : Value} (hl : LiR byC 1 M l v) (hm : marksOf M = []) (h8 : l.length ≤ 8) : CallsV Tryz.prog 82 [v] M (Ret0 (.int .u64 (lowN l : Nat))) := by
  obtain ⟨p, k, rfl, hla⟩ := LiR.openC byC_len (by decide) hl
  refine callsO gI0_ok Tryz.mix Tryz.pl82 Tryz.func82 rfl Tryz.ntmps82 Tryz.results82 rfl (by first | rfl | assumption) (Nat.le_of_ble_eq_true rfl) (by kernel_rfl) ?_
  simp only [push_cast, Nat.reduceAdd, Nat.reduceSub, Nat.reduceMul, Nat.reduceLT, Nat.reduceLeDiff, Nat.reduceEqDiff, Nat.reduceMod, Nat.reduceDiv, Int.reduceAdd, Int.reduceSub, Int.reduceMul, Int.reduceLT, Int.reduceLE, Int.reduceEq, Int.reduceNeg, Int.reduceToNat, reduceIte, reduceCtorEq, Int.reduceBEq, Int.reduceBNe]
  refine loopO gI0_ok (pl := Tryz.pl82) Tryz.mix (X := Nat)
    (fun i => ([(2, .int .u64 (lowN (l.take i) : Nat)), (5, .slice p l.length k), (6, .int .i64 l.length), (7, .int .i64 i)], M))
    (fun i => i ≤ l.length) (fun i => l.length - i) 0 ?_ ?_ (by kernel_rfl) ?_
  · exact Nat.zero_le _
  · simp only [push_cast, Nat.reduceAdd, Nat.reduceSub, Nat.reduceMul, Nat.reduceLT, Nat.reduceLeDiff, Nat.reduceEqDiff, Nat.reduceMod, Nat.reduceDiv, Int.reduceAdd, Int.reduceSub, Int.reduceMul, Int.reduceLT, Int.reduceLE, Int.reduceEq, Int.reduceNeg, Int.reduceToNat, reduceIte, reduceCtorEq, Int.reduceBEq, Int.reduceBNe, List.take_zero, lowN]
    try exact subH_self _
  · intro i hi
    by_cases hc : i < l.length
    · rcases hla with hl0 | ⟨b, f, d, kd, cs, rfl, hfe, hat⟩
      · rw [hl0] at hc; simp at hc
      obtain ⟨a1, a2⟩ := hat i l[i] (List.getElem?_eq_getElem hc)
      rw [Nat.mul_one] at a1 a2
      rw [show byC l[i] = [.int .u8 (l[i]).toNat] from rfl] at a2
      have i1 : (i : Int) < (l.length : Int) := by omega
      have hst := lowN_take l hc
      have hx := lowN_lt (l.take i)
      rw [List.length_take, Nat.min_eq_left (by omega)] at hx
      obtain ⟨c, hcc⟩ : ∃ c, c = (l[i]).toNat := ⟨_, rfl⟩
      have hc2 : c < 256 := hcc ▸ (l[i]).toNat_lt
      rw [← hcc] at a2 hst
      obtain ⟨o1, o2⟩ := or_shl8 (x := lowN (l.take i)) (c := c) (r := i) (by omega) hx hc2
      rw [← hst] at o1 o2
      have w1 : IntKind.u64.wrap (c : Int) = (c : Int) := by rw [IntKind.wrap_u64]; omega
      have w2 : ¬ (8 * (i : Int) < 0) := by omega
      simp only [push_cast, Nat.reduceAdd, Nat.reduceSub, Nat.reduceMul, Nat.reduceLT, Nat.reduceLeDiff, Nat.reduceEqDiff, Nat.reduceMod, Nat.reduceDiv, Int.reduceAdd, Int.reduceSub, Int.reduceMul, Int.reduceLT, Int.reduceLE, Int.reduceEq, Int.reduceNeg, Int.reduceToNat, reduceIte, reduceCtorEq, Int.reduceBEq, Int.reduceBNe, hc, i1, hfe, a1, a2, w1, w2, wrap_i64' (show -9223372036854775808 ≤ 8 * (i : Int) ∧ 8 * (i : Int) ≤ 9223372036854775807 by omega), o1, wrap_i64' (show -9223372036854775808 ≤ (i : Int) + 1 ∧ (i : Int) + 1 ≤ 9223372036854775807 by omega)]
      exact ⟨i + 1, hc, by omega, rfl, rfl⟩
    · obtain rfl : i = l.length := by omega
      have i1 : ¬ (l.length : Int) < (l.length : Int) := by omega
      simp only [push_cast, Nat.reduceAdd, Nat.reduceSub, Nat.reduceMul, Nat.reduceLT, Nat.reduceLeDiff, Nat.reduceEqDiff, Nat.reduceMod, Nat.reduceDiv, Int.reduceAdd, Int.reduceSub, Int.reduceMul, Int.reduceLT, Int.reduceLE, Int.reduceEq, Int.reduceNeg, Int.reduceToNat, reduceIte, reduceCtorEq, Int.reduceBEq, Int.reduceBNe, hc, i1, List.take_length]
theorem low_R {M : Hp} {l : List UInt8} {v : Value} (hl : LiR byC 1 M l v) (h8 : l.length ≤ 8) : ∀ M0, roM M0 → cellsAt M0 = cellsAt M → CallsV Tryz.prog 82 [v] M0 (Ret0 (.int .u64 (lowN l : Nat))) :=
  fun _ hr he => low_ok (hl.congr he.symm) hr.marks h8
noncomputable def gI1 : Gam := addM bytesFlag flagM gI0
attribute [push_cast] gI1
theorem gI1_ok : GamOk Tryz.prog gI1 := addM_ok flagM_ok gI0_ok
attribute [-push_cast] evAppend_nil evAppend_some
theorem pad_ok (l : List UInt8) (hl : l.length ≤ 2000000) : CallsV Tryz.prog 81 [.string ⟨l.toArray⟩] [] (Ret0 (.string ⟨(padK l).toArray⟩)) := by
  have hsz : (ByteArray.mk l.toArray).size = l.length := by simp [ByteArray.size]
  refine callsO gI1_ok Tryz.mix Tryz.pl81 Tryz.func81 rfl Tryz.ntmps81 Tryz.results81 rfl (by first | rfl | assumption) (Nat.le_of_ble_eq_true rfl) (by kernel_rfl) ?_
  simp only [push_cast, Nat.reduceAdd, Nat.reduceSub, Nat.reduceMul, Nat.reduceLT, Nat.reduceLeDiff, Nat.reduceEqDiff, Nat.reduceMod, Nat.reduceDiv, Int.reduceAdd, Int.reduceSub, Int.reduceMul, Int.reduceLT, Int.reduceLE, Int.reduceEq, Int.reduceNeg, Int.reduceToNat, reduceIte, reduceCtorEq, Int.reduceBEq, Int.reduceBNe, hsz]
  intro b c hc b1 hb1
  obtain ⟨J, hJ0⟩ : ∃ J, J = padJ_many l.length := ⟨_, rfl⟩
  have hJ : J = (136 - (l.length + 1) % 136) % 136 := hJ0
  have hb1' : fresh b1 [⟨b, 0, .vec 5 1 c, byteV l⟩] := ⟨hb1.1, hb1.2, trivial⟩
  refine push_gA (P := Tryz.prog) (e := 5) (sz := 1) (c := byC) (x := (1 : UInt8)) (N := [⟨b, 0, .vec 5 1 c, byteV l⟩]) (X := []) [] (by_ := 1) (q := 1) (ag := false) (l := l) (.inr ⟨b, c, rfl, hc, by rw [byV_flat, byV_len, Nat.mul_one], by rw [byV_flat]⟩) ⟨hb1', trivial⟩ (by simp only [push_cast, Nat.reduceAdd, Nat.reduceSub, Nat.reduceMul, Nat.reduceLT, Nat.reduceLeDiff, Nat.reduceEqDiff, Nat.reduceMod, Nat.reduceDiv, Int.reduceAdd, Int.reduceSub, Int.reduceMul, Int.reduceLT, Int.reduceLE, Int.reduceEq, Int.reduceNeg, Int.reduceToNat, reduceIte, reduceCtorEq, Int.reduceBEq, Int.reduceBNe]) (by simp only [push_cast, Nat.reduceAdd, Nat.reduceSub, Nat.reduceMul, Nat.reduceLT, Nat.reduceLeDiff, Nat.reduceEqDiff, Nat.reduceMod, Nat.reduceDiv, Int.reduceAdd, Int.reduceSub, Int.reduceMul, Int.reduceLT, Int.reduceLE, Int.reduceEq, Int.reduceNeg, Int.reduceToNat, reduceIte, reduceCtorEq, Int.reduceBEq, Int.reduceBNe]) rfl rfl (by unfold two47; omega) fun v3 N3 ho4 hf4 => ?_
  rw [← padJ_0] at ho4
  obtain ⟨p3, c3, rfl⟩ := ho4.slice
  have h0l := padJ_len l 0
  rw [h0l] at ho4
  simp only [push_cast, Nat.reduceAdd, Nat.reduceSub, Nat.reduceMul, Nat.reduceLT, Nat.reduceLeDiff, Nat.reduceEqDiff, Nat.reduceMod, Nat.reduceDiv, Int.reduceAdd, Int.reduceSub, Int.reduceMul, Int.reduceLT, Int.reduceLE, Int.reduceEq, Int.reduceNeg, Int.reduceToNat, reduceIte, reduceCtorEq, Int.reduceBEq, Int.reduceBNe]
  have w3 := ho4.wr.2
  refine loopO gI1_ok (pl := Tryz.pl81) Tryz.mix (X := {x : (Nat × Value) × Hp // marksOf x.2 = []})
    (fun x => ([(3, x.1.1.2)], x.1.2))
    (fun x => x.1.1.1 ≤ J ∧ OutG 5 1 ((padJ l x.1.1.1).flatMap byC) (l.length + 1 + x.1.1.1) x.1.1.2 x.1.2) (fun x => J - x.1.1.1) ⟨((0, .slice p3 (l.length + 1 + 0) c3), N3), w3⟩ ?_ ?_ (by kernel_rfl) ?_
  · exact ⟨Nat.zero_le _, ho4⟩
  · simp only [push_cast, Nat.reduceAdd, Nat.reduceSub, Nat.reduceMul, Nat.reduceLT, Nat.reduceLeDiff, Nat.reduceEqDiff, Nat.reduceMod, Nat.reduceDiv, Int.reduceAdd, Int.reduceSub, Int.reduceMul, Int.reduceLT, Int.reduceLE, Int.reduceEq, Int.reduceNeg, Int.reduceToNat, reduceIte, reduceCtorEq, Int.reduceBEq, Int.reduceBNe, marks_append, marksOf, w3, h0l]
    try exact subH_app _ _
  · rintro ⟨⟨⟨j, vj⟩, N⟩, hNm⟩ ⟨hj, ho⟩
    dsimp only at hj ho hNm ⊢
    obtain ⟨pj, cj, rfl⟩ := ho.slice
    have hlen := padJ_len l j
    have hstep := padJ_s l j
    obtain ⟨L, hL⟩ : ∃ L, L = padJ l j := ⟨_, rfl⟩
    obtain ⟨n, hn⟩ : ∃ n, n = l.length + 1 + j := ⟨_, rfl⟩
    rw [← hL] at ho hlen hstep
    rw [← hn] at hlen ho ⊢
    have et : (n : Int).tmod 136 = (n : Int) % 136 := Int.tmod_eq_emod_of_nonneg (by omega)
    by_cases hc2 : j < J
    · have m1 : ((n : Int) % 136 != 0) = true := bne_iff_ne.2 (by omega)
      simp only [push_cast, Nat.reduceAdd, Nat.reduceSub, Nat.reduceMul, Nat.reduceLT, Nat.reduceLeDiff, Nat.reduceEqDiff, Nat.reduceMod, Nat.reduceDiv, Int.reduceAdd, Int.reduceSub, Int.reduceMul, Int.reduceLT, Int.reduceLE, Int.reduceEq, Int.reduceNeg, Int.reduceToNat, reduceIte, reduceCtorEq, Int.reduceBEq, Int.reduceBNe, et, m1]
      intro bs hbs
      rw [← hlen] at ho ⊢
      have hNN : N = N ++ [] := (List.append_nil N).symm
      obtain ⟨N0, hN0⟩ : ∃ N0, N0 = N := ⟨_, rfl⟩
      rw [← hN0] at hNN ho hbs ⊢
      rw [hNN]
      refine push_gA (P := Tryz.prog) (e := 5) (sz := 1) (c := byC) (x := (0 : UInt8)) (N := N0) (X := []) [] (by_ := 1) (q := 1) (ag := false) (l := L) ho ⟨hbs, trivial⟩ (by simp only [push_cast, Nat.reduceAdd, Nat.reduceSub, Nat.reduceMul, Nat.reduceLT, Nat.reduceLeDiff, Nat.reduceEqDiff, Nat.reduceMod, Nat.reduceDiv, Int.reduceAdd, Int.reduceSub, Int.reduceMul, Int.reduceLT, Int.reduceLE, Int.reduceEq, Int.reduceNeg, Int.reduceToNat, reduceIte, reduceCtorEq, Int.reduceBEq, Int.reduceBNe]) (by simp only [push_cast, Nat.reduceAdd, Nat.reduceSub, Nat.reduceMul, Nat.reduceLT, Nat.reduceLeDiff, Nat.reduceEqDiff, Nat.reduceMod, Nat.reduceDiv, Int.reduceAdd, Int.reduceSub, Int.reduceMul, Int.reduceLT, Int.reduceLE, Int.reduceEq, Int.reduceNeg, Int.reduceToNat, reduceIte, reduceCtorEq, Int.reduceBEq, Int.reduceBNe]) rfl rfl (by unfold two47; omega) fun v4 N4 ho5 hf5 => ?_
      obtain ⟨p4, c4, rfl⟩ := ho5.slice
      have hl5 : (L ++ [0]).length = l.length + 1 + (j + 1) := by rw [List.length_append, hlen]; show n + 1 = _; omega
      rw [hl5, ← hstep] at ho5
      have w5 := ho5.wr.2
      have w0 := ho.wr.2
      simp only [push_cast, Nat.reduceAdd, Nat.reduceSub, Nat.reduceMul, Nat.reduceLT, Nat.reduceLeDiff, Nat.reduceEqDiff, Nat.reduceMod, Nat.reduceDiv, Int.reduceAdd, Int.reduceSub, Int.reduceMul, Int.reduceLT, Int.reduceLE, Int.reduceEq, Int.reduceNeg, Int.reduceToNat, reduceIte, reduceCtorEq, Int.reduceBEq, Int.reduceBNe, hl5]
      refine ⟨⟨((j + 1, .slice p4 (l.length + 1 + (j + 1)) c4), N4), w5⟩, ⟨hc2, ho5⟩, by dsimp only; omega, rfl, ?_, ?_⟩
      · exact subH_app _ _
      · simp [marks_append, marksOf, w5, w0]
    · obtain rfl : j = J := by omega
      have m1 : ((n : Int) % 136 != 0) = false := by rw [show (n : Int) % 136 = 0 by omega]; rfl
      rcases ho with ⟨r1, -⟩ | ⟨bu, cu, r3, r4, r5, rfl⟩
      · omega
      cases r3
      obtain ⟨m, hm⟩ : ∃ m, m = l.length + j := ⟨_, rfl⟩
      have em : IntKind.i64.wrap ((n : Int) - 1) = (m : Int) := by
        rw [show (n : Int) - 1 = (m : Int) by omega]
        exact IntWalk.i64_in _ (by omega)
      have hmL : m < L.length := by omega
      have a1 := byV_at hmL
      have a2 := or128 (L.getD m 0).toNat (L.getD m 0).toNat_lt
      have a3 := byV_set (x := L.getD m 0 ||| 128) hmL
      rw [UInt8.toNat_or, show (128 : UInt8).toNat = 128 from rfl] at a3
      have m2 : (0 : Int) ≤ m := by omega
      have m3 : (m : Int) < (n : Int) := by omega
      have m4 : m + 1 ≤ n := by omega
      have lb : (byteV L).length = n := by rw [byV_len, hlen]
      have lc : (byteV (L.set m (L.getD m 0 ||| 128))).length = n := by rw [byV_len, List.length_set, hlen]
      have hfin : padK l = L.set m (L.getD m 0 ||| 128) := by
        unfold padK orL
        rw [← hJ0, ← hL, hlen, show n - 1 = m by omega]
      rw [hfin]
      rw [byV_flat]
      simp only [push_cast, Nat.reduceAdd, Nat.reduceSub, Nat.reduceMul, Nat.reduceLT, Nat.reduceLeDiff, Nat.reduceEqDiff, Nat.reduceMod, Nat.reduceDiv, Int.reduceAdd, Int.reduceSub, Int.reduceMul, Int.reduceLT, Int.reduceLE, Int.reduceEq, Int.reduceNeg, Int.reduceToNat, reduceIte, reduceCtorEq, Int.reduceBEq, Int.reduceBNe, et, m1, em, m2, m3, m4, lb, lc, a1, a2, a3, (show ¬ n = 0 by omega), (List.take_of_length_le (Nat.le_of_eq lc) : List.take n (byteV (L.set m (L.getD m 0 ||| 128))) = _), bytesOf_byteV]
end Go.Proofs.YtpcjmmdgopihcaaGreatDoor
set_option linter.unusedSimpArgs false
set_option linter.unusedVariables false
namespace Go.Proofs.YtpcjmmdgopihcaaGreatDoor
open Go Go.Ev Go.Proofs
set_option maxRecDepth 100000
set_option maxHeartbeats 4000000
def chkV (bq B : Nat) : List (List Value) := (List.range B).map fun j => [.slice (some ⟨bq, 136 * j, none⟩) 136 136]
theorem chkV_at {bq B k : Nat} {args : List Value} (h : (chkV bq B)[k]? = some args) : k < B ∧ args = [.slice (some ⟨bq, 136 * k, none⟩) 136 136] := by
  unfold chkV at h
  rw [List.getElem?_map] at h
  obtain ⟨j, hj, rfl⟩ := Option.map_eq_some_iff.1 h
  obtain ⟨h1, h2⟩ := List.getElem?_eq_some_iff.1 hj
  rw [List.getElem_range] at h2
  subst h2
  rw [List.length_range] at h1
  exact ⟨h1, rfl⟩
theorem chkV_one {bq B : Nat} : ∀ args ∈ chkV bq B, args.length = 1 := fun args h => by
  obtain ⟨j, -, rfl⟩ := List.mem_map.1 h
  rfl
theorem chkV_len (bq B : Nat) : (chkV bq B).length = B := by unfold chkV; simp
theorem chunk1_ok {Hc : Hp} {b2 b3 bq B c T : Nat} {k2 k3 : Kind} (hT : T = 136 * B) (hTc : T ≤ c) (hB : B ≤ 1000000) (hmc : marksOf Hc = []) (h2 : findE Hc b2 = some ⟨b2, 0, k2, [.slice (some ⟨bq, 0, none⟩) T c]⟩) (h3 : findE Hc b3 = some ⟨b3, 0, k3, [.int .i64 136]⟩) :
    IterV Tryz.prog 106 [.pointer (some ⟨b2, 0, none⟩), .pointer (some ⟨b3, 0, none⟩)] Hc (chkV bq B) := by
  refine ⟨enterO Tryz.func106 rfl rfl, fun X Ho I St l x0 hro hmk h0 hy => ?_⟩
  have hmarks : ∀ x, marksOf (Hc ++ Ho x) = [] := fun x => by rw [marks_append, hmc, hmk]; rfl
  have hm0 := hmarks x0
  have h2' := fun z => findE_appT (B := Ho z) h2
  have h3' := fun z => findE_appT (B := Ho z) h3
  have yl : ∀ (j : Nat) (z : X) (v : Value) (K' : Value → Hp → Prop), j < B → v = .slice (some ⟨bq, 136 * j, none⟩) 136 136 → I j z → (∀ x', I (j + 1) x' → K' (.bool true) (Hc ++ Ho x')) → (∀ x', St x' → K' (.bool false) (Hc ++ Ho x')) → YieldV Tryz.prog l [v] (Hc ++ Ho z) K' := fun j z v K' hj hv hi ht hf => by
    subst hv
    refine (hy j z [.slice (some ⟨bq, 136 * j, none⟩) 136 136] (by unfold chkV; rw [List.getElem?_map, List.getElem?_range hj]; rfl) hi).frame ?_ ?_
    · rintro v H' (⟨rfl, x', _, rfl⟩ | ⟨rfl, x', _, rfl⟩) <;> exact hro z x'
    · rintro v H' (⟨rfl, x', h, rfl⟩ | ⟨rfl, x', h, rfl⟩)
      · exact ht x' h
      · exact hf x' h
  have yf : ∀ (x' : X), (I (chkV bq B).length x' ∨ St x') → ∃ H'_1, List.Sublist H'_1 (dropM (Hc ++ Ho x')) ∧ ∃ z, (I (chkV bq B).length z ∨ St z) ∧ H'_1 = Ho z := fun x' hst => by
    refine ⟨Ho x', ?_, x', hst, rfl⟩
    rw [dropM_eq (hmarks x')]
    exact List.sublist_append_right _ _
  have hvl := chkV_len bq B
  obtain ⟨vs, hvs⟩ : ∃ vs, vs = chkV bq B := ⟨_, rfl⟩
  rw [← hvs] at yf hvl ⊢
  refine callsO gI0_ok Tryz.mix Tryz.pl106 Tryz.func106 rfl Tryz.ntmps106 Tryz.results106 rfl (by first | rfl | assumption) (Nat.le_of_ble_eq_true rfl) (by kernel_rfl) ?_
  simp only [push_cast, Nat.reduceAdd, Nat.reduceSub, Nat.reduceMul, Nat.reduceLT, Nat.reduceLeDiff, Nat.reduceEqDiff, Nat.reduceMod, Nat.reduceDiv, Int.reduceAdd, Int.reduceSub, Int.reduceMul, Int.reduceLT, Int.reduceLE, Int.reduceEq, Int.reduceNeg, Int.reduceToNat, reduceIte, reduceCtorEq, Int.reduceBEq, Int.reduceBNe, h2', h3']
  refine loopO gI0_ok (pl := Tryz.pl106) Tryz.mix (X := Nat × X)
    (fun s => ([(0, .func (.yield l) #[] #[]), (1, .pointer (some ⟨b2, 0, none⟩)), (2, .pointer (some ⟨b3, 0, none⟩)), (4, .int .i64 (136 * (s.1 : Int)))], Hc ++ Ho s.2))
    (fun s => s.1 ≤ B ∧ I s.1 s.2) (fun s => B - s.1) (0, x0) ?_ ?_ (by kernel_rfl) ?_
  · exact ⟨Nat.zero_le _, h0⟩
  · simp only [push_cast, Nat.reduceAdd, Nat.reduceSub, Nat.reduceMul, Nat.reduceLT, Nat.reduceLeDiff, Nat.reduceEqDiff, Nat.reduceMod, Nat.reduceDiv, Int.reduceAdd, Int.reduceSub, Int.reduceMul, Int.reduceLT, Int.reduceLE, Int.reduceEq, Int.reduceNeg, Int.reduceToNat, reduceIte, reduceCtorEq, Int.reduceBEq, Int.reduceBNe, hm0, subH_self]
  · rintro ⟨k, z⟩ ⟨hk, hi⟩
    dsimp only at hk hi ⊢
    obtain ⟨p, hp⟩ : ∃ p, p = 136 * k := ⟨_, rfl⟩
    have ep : 136 * (k : Int) = (p : Int) := by omega
    by_cases hc : k < B
    · have k1 : (p : Int) < (T : Int) := by omega
      have k2 : p < T := by omega
      have k3 : (0 : Int) ≤ (p : Int) := by omega
      have k4 : (p : Int) ≤ (T : Int) := by omega
      have k5 : p ≤ T := by omega
      have k6 : (136 : Int) ≤ ((T - p : Nat) : Int) := by omega
      obtain ⟨q, hq⟩ : ∃ q, q = p + 136 := ⟨_, rfl⟩
      have kw : IntKind.i64.wrap ((p : Int) + 136) = (q : Int) := by
        rw [show (p : Int) + 136 = (q : Int) by omega]
        exact IntWalk.i64_in _ (by omega)
      have k7 : (q : Int) ≤ (c : Int) := by omega
      have k8 : q ≤ c := by omega
      have k9 : p ≤ q := by omega
      have k10 : (0 : Int) ≤ (q : Int) := by omega
      have k11 : ¬ ((T : Int) - (p : Int) < 136) := by omega
      have k13 : ¬ (q = p) := by omega
      have k14 : q - p = 136 := by omega
      simp only [push_cast, Nat.reduceAdd, Nat.reduceSub, Nat.reduceMul, Nat.reduceLT, Nat.reduceLeDiff, Nat.reduceEqDiff, Nat.reduceMod, Nat.reduceDiv, Int.reduceAdd, Int.reduceSub, Int.reduceMul, Int.reduceLT, Int.reduceLE, Int.reduceEq, Int.reduceNeg, Int.reduceToNat, reduceIte, reduceCtorEq, Int.reduceBEq, Int.reduceBNe, h2', h3', hc, ep, k1, k2, k3, k4, k5, k6, kw, k7, k8, k9, k10, k11, Int.le_refl, Nat.le_refl, Int.toNat_natCast, k13, k14]
      refine yl k z (.slice (some ⟨bq, p, none⟩) 136 136) _ hc (by rw [hp]) hi (fun x' hx' => ?_) (fun x' hx' => ?_)
      · simp only [push_cast, Nat.reduceAdd, Nat.reduceSub, Nat.reduceMul, Nat.reduceLT, Nat.reduceLeDiff, Nat.reduceEqDiff, Nat.reduceMod, Nat.reduceDiv, Int.reduceAdd, Int.reduceSub, Int.reduceMul, Int.reduceLT, Int.reduceLE, Int.reduceEq, Int.reduceNeg, Int.reduceToNat, reduceIte, reduceCtorEq, Int.reduceBEq, Int.reduceBNe, h2', h3', kw]
        exact ⟨(k + 1, x'), ⟨hc, hx'⟩, by dsimp only; omega, by dsimp only; rw [hq, hp]; congr 1, subH_self _, by simp only [hmarks]⟩
      · simp only [push_cast, Nat.reduceAdd, Nat.reduceSub, Nat.reduceMul, Nat.reduceLT, Nat.reduceLeDiff, Nat.reduceEqDiff, Nat.reduceMod, Nat.reduceDiv, Int.reduceAdd, Int.reduceSub, Int.reduceMul, Int.reduceLT, Int.reduceLE, Int.reduceEq, Int.reduceNeg, Int.reduceToNat, reduceIte, reduceCtorEq, Int.reduceBEq, Int.reduceBNe]
        exact yf x' (.inr hx')
    · obtain rfl : k = B := by omega
      have k1 : ¬ (p : Int) < (T : Int) := by omega
      have k2 : ¬ p < T := by omega
      simp only [push_cast, Nat.reduceAdd, Nat.reduceSub, Nat.reduceMul, Nat.reduceLT, Nat.reduceLeDiff, Nat.reduceEqDiff, Nat.reduceMod, Nat.reduceDiv, Int.reduceAdd, Int.reduceSub, Int.reduceMul, Int.reduceLT, Int.reduceLE, Int.reduceEq, Int.reduceNeg, Int.reduceToNat, reduceIte, reduceCtorEq, Int.reduceBEq, Int.reduceBNe, h2', h3', hc, ep, k1, k2]
      exact yf z (.inl (by rw [hvl]; exact hi))
theorem chunk_ok (p : Option Addr) (T c : Nat) : CallsV Tryz.prog 80 [.slice p T c, .int .i64 136] [] (fun v N => ∃ b2 b3, v = .func (.func 106) #[] #[.pointer (some ⟨b2, 0, none⟩), .pointer (some ⟨b3, 0, none⟩)] ∧ N = [⟨b3, 0, .cel 3, [.int .i64 136]⟩, ⟨b2, 0, .cel 101, [.slice p T c]⟩] ∧ ¬ b3 = b2) := by
  refine callsO gI0_ok Tryz.mix Tryz.pl80 Tryz.func80 rfl Tryz.ntmps80 Tryz.results80 rfl (by first | rfl | assumption) (Nat.le_of_ble_eq_true rfl) (by kernel_rfl) ?_
  simp only [push_cast, Nat.reduceAdd, Nat.reduceSub, Nat.reduceMul, Nat.reduceLT, Nat.reduceLeDiff, Nat.reduceEqDiff, Nat.reduceMod, Nat.reduceDiv, Int.reduceAdd, Int.reduceSub, Int.reduceMul, Int.reduceLT, Int.reduceLE, Int.reduceEq, Int.reduceNeg, Int.reduceToNat, reduceIte, reduceCtorEq, Int.reduceBEq, Int.reduceBNe]
  intro b2 b3 hb3
  try simp only [push_cast, Nat.reduceAdd, Nat.reduceSub, Nat.reduceMul, Nat.reduceLT, Nat.reduceLeDiff, Nat.reduceEqDiff, Nat.reduceMod, Nat.reduceDiv, Int.reduceAdd, Int.reduceSub, Int.reduceMul, Int.reduceLT, Int.reduceLE, Int.reduceEq, Int.reduceNeg, Int.reduceToNat, reduceIte, reduceCtorEq, Int.reduceBEq, Int.reduceBNe, hb3]
  exact ⟨[_, _], List.Sublist.refl _, b2, b3, rfl, rfl, hb3.1⟩
end Go.Proofs.YtpcjmmdgopihcaaGreatDoor
