/- EvO: the evaluator once more, under names that the kernel does not unfold: each step of it is then a rewriting by a told equation. -/
import Derived.Test.YtndioekjgmbomaaDoorEvL
set_option linter.unusedSimpArgs false
set_option linter.unusedVariables false
namespace Go.Ev
open Go.RowKit

theorem ox {α : Type} (a : α) : ∃ b, b = a := ⟨a, rfl⟩
noncomputable def hid {α : Type} (a : α) : α := Classical.choose (ox a)
theorem hid_eq {α : Type} (a : α) : hid a = a := Classical.choose_spec (ox a)

noncomputable def oOps (P : Program) (G : Gam) (n : Nat) (ops : List Oper) (K : Tm → Hp → Prop) : List Oper → Tm → Hp → Prop := hid (evOps P G n ops K)
noncomputable def oD (P : Program) (G : Gam) (n : Nat) (ops : List Oper) (K : Tm → Hp → Prop) : List (Nat × Nat) → Tm → Hp → Prop := hid (evD P G n ops K)
noncomputable def oC (P : Program) (G : Gam) (pl : Plans) (r : Option Nat) (n : Nat) : Code → (Exit → Tm → Hp → Prop) → Tm → Hp → Prop := hid (evC P G pl r n)
noncomputable def oUn (P : Program) (G : Gam) (pl : Plans) (r : Option Nat) (n : Nat) (c : Code) (K : Exit → Tm → Hp → Prop) : Nat → Tm → Hp → Prop := hid (evUn P G pl r n c K)
theorem oOps_eq (P : Program) (G : Gam) (n : Nat) (ops : List Oper) (K : Tm → Hp → Prop) : oOps P G n ops K = evOps P G n ops K := hid_eq _
theorem oD_eq (P : Program) (G : Gam) (n : Nat) (ops : List Oper) (K : Tm → Hp → Prop) : oD P G n ops K = evD P G n ops K := hid_eq _
theorem oC_eq (P : Program) (G : Gam) (pl : Plans) (r : Option Nat) (n : Nat) : oC P G pl r n = evC P G pl r n := hid_eq _
theorem oUn_eq (P : Program) (G : Gam) (pl : Plans) (r : Option Nat) (n : Nat) (c : Code) (K : Exit → Tm → Hp → Prop) : oUn P G pl r n c K = evUn P G pl r n c K := hid_eq _

def selB (b : Bool) (A B : Prop) : Prop := match b with | true => A | false => B
theorem selB_arms (b : Bool) (A B : Prop) : ((b = true → A) ∧ (b = false → B)) = selB b A B := by cases b <;> simp [selB]
theorem sel_ite (b : Bool) (A B : Prop) : (match b with | true => A | false => B) = (if b = true then A else B) := by cases b <;> simp
def ogd (ops : List Oper) (T : Tm) (g : Option (Nat × Bool)) (A B : Prop) : Prop :=
  match g with
  | none => A
  | some (j, want) => match ops[j]? with
    | some oj => match oj.dst with
      | some t => match getT T t with
        | some (.bool b) => match want with | true => selB b A B | false => selB b B A
        | some (.tuple _) => B
        | _ => False
      | none => False
    | none => False
theorem gd_eq (ops : List Oper) (T : Tm) (g : Option (Nat × Bool)) (A B : Prop) : gd ops T g A B = ogd ops T g A B := by
  unfold gd ogd
  rcases g with _ | ⟨j, want⟩
  · rfl
  dsimp only
  cases ops[j]? with
  | none => rfl
  | some oj =>
    dsimp only
    cases oj.dst with
    | none => rfl
    | some t =>
      dsimp only
      cases getT T t with
      | none => rfl
      | some v =>
        cases v <;> try rfl
        rename_i b
        cases b <;> cases want <;> simp [selB]
section
variable (P : Program) (G : Gam) (pl : Plans) (r : Option Nat) (n : Nat) (ops : List Oper) (K : Tm → Hp → Prop) (L : Exit → Tm → Hp → Prop) (T : Tm) (H : Hp)
theorem oOps_nil : oOps P G n ops K [] T H = K T H := by rw [oOps_eq, evOps]
/-- what comes behind an operation: simp does not look into it before it is applied -/
noncomputable def oKont (d : Option Nat) (s : List Oper) (v : Value) (H' : Hp) : Prop := oOps P G n ops K s (putT n T d v) H'
noncomputable def dKont (d : Option Nat) (s : List (Nat × Nat)) (v : Value) (H' : Hp) : Prop := oD P G n ops K s (putT n T d v) H'
noncomputable def d2Kont (d : Option Nat) (s : List (Nat × Nat)) (v : Value) (H' : Hp) : Prop := subH H' H ∧ oD P G n ops K s (putT n T d v) H'
noncomputable def tKont (d : Option Nat) (s : List (Nat × Nat)) (v : Value) : Prop := oD P G n ops K s (putT n T d v) H
theorem oOps_cons (o : Oper) (s : List Oper) : oOps P G n ops K (o :: s) T H = ogd ops T o.guard (evOp P G T H o.op (oKont P G n ops K T o.dst s)) (oOps P G n ops K s (putT n T o.dst undef) H) := by
  unfold oKont
  simp only [oOps_eq, evOps, gd_eq]
theorem oD_nil : oD P G n ops K [] T H = K T H := by rw [oD_eq, evD]
theorem oD_take (i : Nat) (s : List (Nat × Nat)) : oD P G n ops K ((i, 0) :: s) T H = (match ops[i]? with
    | some o => ogd ops T o.guard (evTake P G T H o.op (tKont P G n ops K T H o.dst s)) (oD P G n ops K s (putT n T o.dst undef) H)
    | none => False) := by unfold tKont; simp only [oD_eq, evD, evOne, gd_eq]; rfl
theorem oD_one (i : Nat) (s : List (Nat × Nat)) : oD P G n ops K ((i, 1) :: s) T H = (match ops[i]? with
    | some o => ogd ops T o.guard (evOp P G T H o.op (dKont P G n ops K T o.dst s)) (oD P G n ops K s (putT n T o.dst undef) H)
    | none => False) := by unfold dKont; simp only [oD_eq, evD, evOne, gd_eq]; rfl
theorem oD_two (i : Nat) (s : List (Nat × Nat)) : oD P G n ops K ((i, 2) :: s) T H = (match ops[i]? with
    | some o => ogd ops T o.guard (evOp P G T H o.op (d2Kont P G n ops K T H o.dst s)) (oD P G n ops K s (putT n T o.dst undef) H)
    | none => False) := by unfold d2Kont; simp only [oD_eq, evD, evOne, gd_eq]; rfl
theorem oD_race3 (i j k : Nat) (s : List (Nat × Nat)) : oD P G n ops K ((i, 3) :: (j, k) :: s) T H = (evTwo P G n ops (oD P G n ops K s) i 3 j k T H ∧ evTwo P G n ops (oD P G n ops K s) j k i 3 T H) := by simp only [oD_eq, evD]
theorem oD_race4 (i j k : Nat) (s : List (Nat × Nat)) : oD P G n ops K ((i, 4) :: (j, k) :: s) T H = (evTwo P G n ops (oD P G n ops K s) i 4 j k T H ∧ evTwo P G n ops (oD P G n ops K s) j k i 4 T H) := by simp only [oD_eq, evD]
theorem oC_skip : oC P G pl r n .skip L T H = L .normal T H := by rw [oC_eq, evC]
theorem oC_label (l : Nat) : oC P G pl r n (.label l) L T H = L .normal T H := by rw [oC_eq, evC]
theorem oC_ret : oC P G pl r n .ret L T H = L .ret T H := by rw [oC_eq, evC]
theorem oC_exit (i : Nat) : oC P G pl r n (.exit i) L T H = L (.exit i) T H := by rw [oC_eq, evC]
theorem oC_seq (x y : Code) : oC P G pl r n (.seq x y) L T H = oC P G pl r n x (thenK (oC P G pl r n y L) L) T H := by rw [oC_eq, evC]
theorem oC_block (i : Nat) (c : Code) : oC P G pl r n (.block i c) L T H = oC P G pl r n c (blockK i L) T H := by rw [oC_eq, evC]
theorem oC_cond (c : Operand) (x y : Code) : oC P G pl r n (.cond c x y) L T H = (match opd T c with
    | some (.bool b) => selB b (oC P G pl r n x L T H) (oC P G pl r n y L T H)
    | _ => False) := by
  rw [oC_eq, evC]
  simp only [selB_arms]
  rfl
theorem oC_region (i : Nat) (o : Array Oper) : oC P G pl r n (.region i o false) L T H = (match pl i with
      | [] => oOps P G n o.toList (L .normal) o.toList T H
      | _ => WpV P r n (.region i o false) L T H) := by rw [oC_eq, evC]; simp only [oOps_eq]; rfl
theorem oC_drawn (i : Nat) (o : Array Oper) : oC P G pl r n (.region i o true) L T H = (match pl i with
      | [] => WpV P r n (.region i o true) L T H
      | s => oD P G n o.toList (L .normal) s T H) := by rw [oC_eq, evC]; simp only [oD_eq]; rfl
theorem oC_loop (c : Code) : oC P G pl r n (.loop c) L T H = WpV P r n (.loop c) L T H := by rw [oC_eq, evC]
theorem oC_range (f : Operand) (ps : Array Tmp) (x y : Code) : oC P G pl r n (.rangeFunc f ps x y) L T H = WpV P r n (.rangeFunc f ps x y) L T H := by rw [oC_eq, evC]
theorem oC_scope (c : Code) : oC P G pl r n (.scope c) L T H = WpV P r n (.scope c) L T H := by rw [oC_eq, evC]
theorem oC_goto (l : Nat) : oC P G pl r n (.goto l) L T H = WpV P r n (.goto l) L T H := by rw [oC_eq, evC]
theorem oUn_succ (c : Code) (m : Nat) : oUn P G pl r n c L (m + 1) T H = oC P G pl r n c (thenK (oUn P G pl r n c L m) L) T H := by rw [oUn_eq, evUn, oC_eq]
theorem oUn_zero (c : Code) : oUn P G pl r n c L 0 T H = False := by rw [oUn_eq, evUn]
end

theorem callsO {P : Program} {G : Gam} (hG : GamOk P G) (hmix : P.follows .mixedOrders = true) (pl : Plans) {g : FuncId} {fn : Func} {c : Code} {n : Nat} {rs : List ResultVar} {args : List Value} {H : Hp} {K : Value → Hp → Prop} (hf : P.funcs[g]? = some fn) (hb : fn.body = some c) (hn : fn.ntmps = n) (hrs : fn.results = rs.toArray)
    (hname : (fn.name == "runtime.NumGoroutine") = false) (hm : marksOf H = []) (hlen : args.length ≤ n) (hpl : plansOk pl c = true) (h : oC P G pl none n c (retK P rs K) (initT 0 args) H) : CallsV P g args H K :=
  callsV_of_body hG hmix pl hf hb hn hrs hname hm hlen hpl (by rw [oC_eq] at h; exact h)
theorem loopO {P : Program} {G : Gam} (hG : GamOk P G) (hmix : P.follows .mixedOrders = true) {pl : Plans} {r : Option Nat} {n : Nat} {c : Code} {K : Exit → Tm → Hp → Prop} {T : Tm} {H : Hp} {X : Type} (f : X → Tm × Hp) (ok : X → Prop) (μ : X → Nat) (x0 : X) (h0 : ok x0) (hsub : SubS T H (f x0))
    (hpl : plansOk pl c = true) (round : ∀ x, ok x → oC P G pl r n c (thenK (fun T' H' => ∃ x', ok x' ∧ μ x' < μ x ∧ SubS T' H' (f x')) K) (f x).1 (f x).2) : WpV P r n (.loop c) K T H :=
  loopV hG hmix f ok μ x0 h0 hsub hpl (by rw [oC_eq] at round; exact round)
theorem unrollO {P : Program} {G : Gam} (hG : GamOk P G) (hmix : P.follows .mixedOrders = true) {pl : Plans} {r : Option Nat} {n : Nat} {c : Code} {K : Exit → Tm → Hp → Prop} {T : Tm} {H : Hp} (m : Nat) (hpl : plansOk pl c = true)
    (h : oUn P G pl r n c K m T H) : WpV P r n (.loop c) K T H := unrollV hG hmix m hpl (by rw [oUn_eq] at h; exact h)
/-- a round's body, once its variables are set: simp does not look into it before -/
noncomputable def bKont (P : Program) (G : Gam) (pl : Plans) (r : Option Nat) (n : Nat) (body : Code) (K : Exit → Tm → Hp → Prop) (H : Hp) (T' : Tm) (H' : Hp) : Prop := marksOf H' = [] ∧ roSub H' H ∧ oC P G pl r n body K T' H'
theorem rangeO {P : Program} {G : Gam} (hG : GamOk P G) (hmix : P.follows .mixedOrders = true) {pl : Plans} {n : Nat} {g : Operand} {ps : Array Tmp} {assign body : Code} {K : Exit → Tm → Hp → Prop} {T : Tm} {H : Hp} {gf : FuncId} {caps : List Value} {Hc Hm : Hp} {vs : List (List Value)}
    (hit : IterV P gf caps Hc vs) (hg : opd T g = some (.func (.func gf) #[] caps.toArray)) {X : Type} (Ho : X → Hp) (I : Nat → X → Prop) (Stop : Code → X → Prop) (x0 : X) (h0 : I 0 x0)
    (hH : subH H (Hc ++ (Hm ++ Ho x0))) (hmH : marksOf H = marksOf Hm) (hmc : marksOf Hc = []) (hmm : ∀ e ∈ Hm, e.wr) (hmk : ∀ x, marksOf (Ho x) = []) (hro : ∀ x y, ∀ e ∈ Ho y, e.wr ∨ e ∈ Ho x) (hps : ∀ args ∈ vs, args.length = ps.size) (hpa : plansOk pl assign = true) (hpb : plansOk pl body = true) (hpc : ∀ c x, Stop c x → plansOk pl c = true)
    (hb : ∀ l k x args, vs[k]? = some args → I k x → oC P G pl (some l) n assign (thenK (bKont P G pl (some l) n body (roundK Ho I Stop k) (Ho x)) (fun _ _ _ => False)) (parT n T ps.toList args) (Ho x))
    (done : ∀ D x, fresh D (Hm ++ Ho x) → I vs.length x → K .normal T (⟨D, 0, .obj (.deferred (some [])), []⟩ :: (Hm ++ Ho x)))
    (stop : ∀ D c x, fresh D (Hm ++ Ho x) → Stop c x → oC P G pl none n c K T (⟨D, 0, .obj (.deferred (some [])), []⟩ :: (Hm ++ Ho x))) : WpV P none n (.rangeFunc g ps assign body) K T H := by
  unfold bKont at hb
  simp only [oC_eq] at hb stop
  exact rangeV hG hmix hit hg Ho I Stop x0 h0 hH hmH hmc hmm hmk hro hps hpa hpb hpc hb done stop
theorem regO {P : Program} {G : Gam} (hG : GamOk P G) {r : Option Nat} {n : Nat} {id : Nat} {ops : Array Oper} {K : Exit → Tm → Hp → Prop} {T : Tm} {H : Hp} (h : oOps P G n ops.toList (K .normal) ops.toList T H) : WpV P r n (.region id ops false) K T H := regV hG (by rw [oOps_eq] at h; exact h)
theorem enterO {P : Program} {g : FuncId} {fn : Func} {c : Code} (hf : P.funcs[g]? = some fn) (hb : fn.body = some c) (hname : (fn.name == "runtime.NumGoroutine") = false) (as' : Array Value) (w : World) : (callFunc g as').run P w = .ok (.enter g as') w := by
  have hname' : ¬ fn.name = "runtime.NumGoroutine" := by simpa using hname
  simp [callFunc, hf, hname', hb]
end Go.Ev
