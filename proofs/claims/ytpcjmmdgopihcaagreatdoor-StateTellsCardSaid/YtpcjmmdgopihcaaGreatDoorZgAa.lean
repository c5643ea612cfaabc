/- Texts of this claim, merged by program: E1. -/
import Derived.WalkKit
import Derived.CallsIn
import Derived.AtR
import Derived.RangeFuncNested
import Derived.RangeFuncLeaves
import Derived.RangeFuncBound
import Derived.RangeFuncCalls
import Derived.TacticsInMore
import Derived.ChangeKeysEq
import Derived.LaidEqlPtr
import Derived.Lib.UnsafeStr
import Derived.Lib.Builder
import Derived.MapKept
import Derived.WideKeyRuns
set_option linter.unusedSimpArgs false
set_option linter.unusedVariables false
namespace Go.Ev
abbrev Tm := List (Nat × Value)
def getT : Tm → Nat → Option Value
 | [], _ => none
 | (k, v) :: r, i => if i = k then some v else getT r i
inductive Kind where
 | ro
 | cel (e : TypeId)
 | vec (e : TypeId) (s cap : Nat)
 | obj (o : Obj)
structure Ent where
 blk : Nat
 off : Nat
 kind : Kind
 cells : List Value
abbrev Hp := List Ent
def Ent.wr (e : Ent) : Prop := match e.kind with | .ro => False | _ => True
def okFz (s : Nat) (fz : Nat × Nat) (n : Nat) : Prop := fz.2 = 0 ∨ (s = 1 ∧ n ≤ fz.1)
theorem okFz.no {s : Nat} {fz : Nat × Nat} {n k : Nat} (h : okFz s fz n) (hk : k < n) : (decide (fz.1 ≤ k) && decide (k < fz.2)) = false := by
 rcases h with h | ⟨-, h⟩
 · rw [h]; simp
 · rw [decide_eq_false (show ¬ fz.1 ≤ k by omega)]; rfl
def Ent.holds (w : World) (e : Ent) : Prop :=
 match e.kind with
 | .ro => e.blk < w.heap.size ∧ ∀ k v, e.cells[k]? = some v → w.cell? ⟨e.blk, e.off + k, none⟩ = some v
 | .cel t => e.off = 0 ∧ w.heap[e.blk]? = some (.cells e.cells.toArray t (0, 0))
 | .vec t s cap => e.off = 0 ∧ ∃ (cs : Array Value) (fz : Nat × Nat), w.heap[e.blk]? = some (.cells cs t fz) ∧ okFz s fz cs.size ∧ cs.size = cap * s ∧ e.cells.length ≤ cap * s ∧ ∀ (k : Nat) (v : Value), e.cells[k]? = some v → cs[k]? = some v
 | .obj o => e.cells = [] ∧ w.heap[e.blk]? = some o ∧ o.isCells = false
def marksOf : Hp → List Nat
 | [] => []
 | e :: r => match e.kind with
   | .obj (.deferred (some [])) => e.blk :: marksOf r
   | _ => marksOf r
def defersOf (H : Hp) : List Deferred := (marksOf H).map fun r => { target := .collected r, args := #[] }
structure Sat (w0 : World) (mu : Nat → Prop) (H : Hp) (w : World) : Prop where
 os : w.os = w0.os
 tape : w.tape = w0.tape
 output : w.output = w0.output
 size : w0.heap.size ≤ w.heap.size
 old : ∀ b, b < w0.heap.size → ¬ mu b → w.heap[b]? = w0.heap[b]?
 ents : ∀ e ∈ H, e.holds w
 own : ∀ e ∈ H, e.wr → mu e.blk ∨ w0.heap.size ≤ e.blk
 apart : H.Pairwise fun e f => (e.wr ∨ f.wr) → e.blk ≠ f.blk
structure TRel (n : Nat) (T : Tm) (a : Act) : Prop where
 size : a.tmps.size = n
 get : ∀ k v, getT T k = some v → a.tmps[k]? = some v
def opd (T : Tm) : Operand → Option Value
 | .tmp t => getT T t
 | .const v => some v
 | .global g => some (.pointer (some ⟨g, 0, none⟩))
 | .func f => some (.func (.func f) #[] #[])
theorem opd_eval {n : Nat} {T : Tm} {a : Act} (h : TRel n T a) {x : Operand} {v : Value} (hx : opd T x = some v) : a.eval x = v := by
 cases x with
 | tmp t => simp only [opd] at hx; simp [Act.eval, Array.getD_eq_getD_getElem?, h.get t v hx]
 | const u => simpa [opd, Act.eval] using hx
 | global g => simpa [opd, Act.eval] using hx
 | func f => simpa [opd, Act.eval] using hx
def putT (n : Nat) (T : Tm) (d : Option Nat) (v : Value) : Tm :=
 match d with
 | some k => if k < n then (k, v) :: T else T
 | none => T
theorem TRel.put {n : Nat} {T : Tm} {a : Act} (h : TRel n T a) (d : Option Nat) (v : Value) : TRel n (putT n T d v) (a.put d v) := by
 cases d with
 | none => exact h
 | some k =>
   simp only [putT, Act.put]
   by_cases hk : k < n
   · rw [if_pos hk]
     refine ⟨by simpa using h.size, fun i u hi => ?_⟩
     simp only [getT] at hi
     by_cases hik : i = k
     · subst hik; simp at hi; subst hi
       simp [h.size, hk]
     · rw [if_neg hik] at hi
       rw [Array.getElem?_setIfInBounds_ne (Ne.symm hik)]
       exact h.get i u hi
   · rw [if_neg hk]
     refine ⟨by simpa using h.size, fun i u hi => ?_⟩
     have := h.get i u hi
     have hlt : i < a.tmps.size := (Array.getElem?_eq_some_iff.1 this).1
     have h2 := h.size
     have hne : k ≠ i := by omega
     rw [Array.getElem?_setIfInBounds_ne hne]
     exact this
def tyI (P : Program) (t : TypeId) : Option (Nat × Bool) :=
 match P.info? t, P.underlying t with
 | some i, some (.struct _) => some (i.size, true)
 | some i, some (.array _ _) => some (i.size, true)
 | some i, some _ => some (i.size, false)
 | _, _ => none
def zeroL (P : Program) (t : TypeId) : Option (List Value) :=
 match P.info? t with
 | some i => i.zero.map (·.cells.toList)
 | none => none
def findE : Hp → Nat → Option Ent
 | [], _ => none
 | e :: r, b => if b = e.blk then some e else findE r b
def subL (l : List Value) (k s : Nat) : Option (List Value) :=
 if k + s ≤ l.length then some ((l.drop k).take s) else none
def cellsAt (H : Hp) (b o s : Nat) : Option (List Value) :=
 match findE H b with
 | some e => if e.off ≤ o then subL e.cells (o - e.off) s else none
 | none => none
theorem findE_mem {H : Hp} {b : Nat} {e : Ent} (h : findE H b = some e) : e ∈ H ∧ e.blk = b := by
 induction H with
 | nil => simp [findE] at h
 | cons x r ih =>
   simp only [findE] at h
   by_cases hx : b = x.blk
   · rw [if_pos hx] at h; cases h; exact ⟨by simp, hx.symm⟩
   · rw [if_neg hx] at h; have := ih h; exact ⟨by simp [this.1], this.2⟩
theorem Ent.cell {w : World} {e : Ent} (h : e.holds w) {k : Nat} {v : Value} (hk : e.cells[k]? = some v) : w.cell? ⟨e.blk, e.off + k, none⟩ = some v := by
 unfold Ent.holds at h
 split at h
 · exact h.2 k v hk
 · obtain ⟨h0, hb⟩ := h; simp [World.cell?, hb, h0, hk]
 · obtain ⟨h0, cs, fz, hb, _, _, _, hp⟩ := h; simp [World.cell?, hb, h0, hp k v hk]
 · rw [h.1] at hk; cases hk
theorem Ent.lt {w : World} {e : Ent} (h : e.holds w) : e.blk < w.heap.size := by
 unfold Ent.holds at h
 split at h
 · exact h.1
 · exact (Array.getElem?_eq_some_iff.1 h.2).1
 · obtain ⟨_, cs, _, hb, _⟩ := h; exact (Array.getElem?_eq_some_iff.1 hb).1
 · exact (Array.getElem?_eq_some_iff.1 h.2.1).1
theorem subL_get {l r : List Value} {k s : Nat} (h : subL l k s = some r) : r.length = s ∧ ∀ i, i < s → r[i]? = l[k + i]? := by
 unfold subL at h
 split at h
 · cases h
   refine ⟨by simp; omega, fun i hi => ?_⟩
   simp [hi]
 · cases h
theorem run_loadCellsFrom {P : Program} {w : World} {b o : Nat} : ∀ (s i : Nat) (l : List Value) (acc : Array Value), l.length = s →
  (∀ j v, l[j]? = some v → w.cell? ⟨b, o + i + j, none⟩ = some v) →
  (loadCellsFrom ⟨b, o, none⟩ i s acc).run P w = .ok (acc ++ l.toArray) w
 | 0, i, l, acc, hl, _ => by
   have : l = [] := List.eq_nil_of_length_eq_zero hl
   subst this; simp [loadCellsFrom]
 | s + 1, i, l, acc, hl, hc => by
   cases l with
   | nil => simp at hl
   | cons x l =>
     have h0 : w.cell? ((⟨b, o, none⟩ : Addr).add i) = some x := by
      have h := hc 0 x rfl
      unfold Addr.add
      split
      · subst i; simpa using h
      · simpa using h
     rw [loadCellsFrom]
     simp only [Sem.run_bind, run_load, h0]
     simp only [Result.andThen_ok]
     rw [run_loadCellsFrom s (i + 1) l (acc.push x) (by simpa using hl) (fun j v hj => by have := hc (j + 1) v (by simpa using hj); rw [show o + (i + 1) + j = o + i + (j + 1) by omega]; exact this)]
     simp
theorem Sat.cellsAt {w0 w : World} {mu : Nat → Prop} {H : Hp} (h : Sat w0 mu H w) {b o s : Nat} {l : List Value} (hc : cellsAt H b o s = some l) :
  l.length = s ∧ ∀ j v, l[j]? = some v → w.cell? ⟨b, o + j, none⟩ = some v := by
 unfold Ev.cellsAt at hc
 split at hc
 · rename_i e he
   obtain ⟨hm, rfl⟩ := findE_mem he
   split at hc
   · rename_i hle
     obtain ⟨h1, h2⟩ := subL_get hc
     refine ⟨h1, fun j v hj => ?_⟩
     have hjs : j < s := by have := (List.getElem?_eq_some_iff.1 hj).1; omega
     have := Ent.cell (h.ents e hm) (k := o - e.off + j) (v := v) (by rw [← h2 j hjs]; exact hj)
     rw [show e.off + (o - e.off + j) = o + j by omega] at this
     exact this
   · cases hc
 · cases hc
def ofCells (agg : Bool) (l : List Value) : Option Value :=
 match agg, l with
 | true, l => some (.agg l.toArray)
 | false, [v] => some v
 | _, _ => none
def loadV (P : Program) (H : Hp) (t : TypeId) (p : Value) : Option Value :=
 match p with
 | .pointer (some ⟨b, o, none⟩) =>
   match tyI P t with
   | some (s, ag) => (cellsAt H b o s).bind (ofCells ag)
   | none => none
 | _ => none
theorem isAgg_of {P : Program} {w : World} {t : TypeId} {s : Nat} {ag : Bool} (h : tyI P t = some (s, ag)) :
  (isAgg t).run P w = .ok ag w ∧ (sizeOf t).run P w = .ok s w := by
 unfold tyI at h
 split at h <;> simp at h
 all_goals
  rename_i i hi hu
  obtain ⟨rfl, rfl⟩ := h
  refine ⟨?_, by simp [sizeOf, typeInfo, hi]⟩
  simp only [isAgg, Sem.run_bind, run_underlying hu, Result.andThen_ok]
 · rfl
 · rfl
 · rfl
theorem run_loadV {P : Program} {w0 w : World} {mu : Nat → Prop} {H : Hp} (h : Sat w0 mu H w) {t : TypeId} {p v : Value} (hv : loadV P H t p = some v) :
  (Instr.loadAt t p).run P w = .ok v w := by
 unfold loadV at hv
 split at hv
 case h_2 => cases hv
 rename_i b o
 split at hv
 case h_2 => cases hv
 rename_i s ag hty
 obtain ⟨ha, hs⟩ := isAgg_of (w := w) hty
 cases hc : cellsAt H b o s with
 | none => simp [hc] at hv
 | some l =>
   simp only [hc, Option.bind_some] at hv
   obtain ⟨h1, h2⟩ := h.cellsAt hc
   unfold Instr.loadAt Instr.sureAddr loadVar
   cases ag with
   | true =>
     simp only [ofCells, Option.some.injEq] at hv
     subst hv
     simp only [Sem.run_bind, Sem.run_pure, Result.andThen_ok, ha, if_true, hs, loadCells]
     rw [run_loadCellsFrom s 0 l #[] h1 (by simpa using h2)]
     simp
   | false =>
     match l, h1, h2, hv with
     | [x], h1, h2, hv =>
       simp only [ofCells, Option.some.injEq] at hv
       subst hv
       have := h2 0 x rfl
       simp only [Nat.add_zero] at this
       simp [ha, this]
     | [], _, _, hv => simp [ofCells] at hv
     | _ :: _ :: _, _, _, hv => simp [ofCells] at hv
end Go.Ev
namespace Go.Ev
def fieldI (P : Program) (s : TypeId) (f : Nat) : Option (Nat × Nat × Bool) :=
 match P.underlying s with
 | some (.struct fs) => match fs[f]? with
   | some fd => match tyI P fd.type with
     | some (n, ag) => if n = 0 then none else some (fd.offset, n, ag)
     | none => none
   | none => none
 | _ => none
def elemI (P : Program) (t : TypeId) : Option (Option Nat × Nat × Bool) :=
 match P.underlying t with
 | some (.array n e) => (tyI P e).map fun x => (some n, x.1, x.2)
 | some (.slice e) => (tyI P e).map fun x => (none, x.1, x.2)
 | _ => none
def intI (P : Program) (t : TypeId) : Option IntKind :=
 match P.underlying t with
 | some (.int k) => some k
 | _ => none
def isStr (P : Program) (t : TypeId) : Bool :=
 match P.underlying t with
 | some .string => true
 | _ => false
def bitsI (op : BinOp) (k : IntKind) (x y : Int) : Int :=
 let a := BitVec.ofInt k.bits x
 let b := BitVec.ofInt k.bits y
 k.wrap (match op with | .and => (a &&& b).toNat | .or => (a ||| b).toNat | .xor => (a ^^^ b).toNat | _ => (a &&& ~~~b).toNat)
def shlI (k : IntKind) (x y : Int) : Int := k.wrap (x * 2 ^ (min y.toNat k.bits))
def shrI (k : IntKind) (x y : Int) : Int := x.fdiv (2 ^ (min y.toNat k.bits))
def catB (x y : ByteArray) : Option Value := if ((x.size + y.size : Nat) : Int) > IntKind.i64.max then none else some (.string (x ++ y))
def binV (op : BinOp) (x y : Value) : Option Value :=
 match op, x, y with
 | .add, .int k a, .int k' b => if k = k' then some (.int k (k.wrap (a + b))) else none
 | .sub, .int k a, .int k' b => if k = k' then some (.int k (k.wrap (a - b))) else none
 | .mul, .int k a, .int k' b => if k = k' then some (.int k (k.wrap (a * b))) else none
 | .quo, .int k a, .int k' b => if k = k' then (if b = 0 then none else some (.int k (k.wrap (a.tdiv b)))) else none
 | .rem, .int k a, .int k' b => if k = k' then (if b = 0 then none else some (.int k (a.tmod b))) else none
 | .and, .int k a, .int k' b => if k = k' then some (.int k (bitsI .and k a b)) else none
 | .or, .int k a, .int k' b => if k = k' then some (.int k (bitsI .or k a b)) else none
 | .xor, .int k a, .int k' b => if k = k' then some (.int k (bitsI .xor k a b)) else none
 | .andNot, .int k a, .int k' b => if k = k' then some (.int k (bitsI .andNot k a b)) else none
 | .shl, .int k a, .int _ b => if b < 0 then none else some (.int k (shlI k a b))
 | .shr, .int k a, .int _ b => if b < 0 then none else some (.int k (shrI k a b))
 | .eql, .int k a, .int k' b => if k = k' then some (.bool (a == b)) else none
 | .neq, .int k a, .int k' b => if k = k' then some (.bool (a != b)) else none
 | .lss, .int k a, .int k' b => if k = k' then some (.bool (decide (a < b))) else none
 | .leq, .int k a, .int k' b => if k = k' then some (.bool (decide (a ≤ b))) else none
 | .gtr, .int k a, .int k' b => if k = k' then some (.bool (decide (b < a))) else none
 | .geq, .int k a, .int k' b => if k = k' then some (.bool (decide (b ≤ a))) else none
 | .add, .string a, .string b => catB a b
 | .eql, .string a, .string b => some (.bool (a.toList == b.toList))
 | .neq, .string a, .string b => some (.bool (!(a.toList == b.toList)))
 | .lss, .string a, .string b => some (.bool (Op.bytesLess a.toList b.toList))
 | .leq, .string a, .string b => some (.bool (Op.bytesLess a.toList b.toList || a.toList == b.toList))
 | .gtr, .string a, .string b => some (.bool (!(Op.bytesLess a.toList b.toList || a.toList == b.toList)))
 | .geq, .string a, .string b => some (.bool (!Op.bytesLess a.toList b.toList))
 | _, _, _ => none
theorem run_eqGuard_plain {P : Program} {w : World} (op : BinOp) (t : TypeId) (x y : Operand) {a b : Value} (h1 : a ≠ .nilIface) (h2 : ∀ c, a ≠ .agg c) :
  (eqGuard op t x y a b).run P w = .ok () w := by
 unfold eqGuard
 split
 case h_3 => rfl
 all_goals
  simp only [Bool.not_true, Bool.false_eq_true, if_false]
  split
  · exact absurd rfl h1
  · exact absurd rfl (h2 _)
  · rfl
theorem run_binV {P : Program} {w : World} {op : BinOp} (t : TypeId) {x y v : Value} (h : binV op x y = some v) : (binOp op t x y).run P w = .ok v w := by
 unfold binV at h
 split at h
 all_goals first
  | (split at h
     · rename_i hk; subst hk; cases h; simp [binOp, Op.intArith, Op.intBits, Op.intCmp, bitsI]
     · cases h)
  | skip
 · split at h
   · rename_i hk
     split at h
     · cases h
     · rename_i hb; subst hk; cases h; simp [binOp, Op.intDiv, hb]
   · cases h
 · split at h
   · rename_i hk
     split at h
     · cases h
     · rename_i hb; subst hk; cases h; simp [binOp, Op.intDiv, hb]
   · cases h
 · split at h
   · cases h
   · rename_i hb; cases h; simp [binOp, Op.shift, hb, shlI]
 · split at h
   · cases h
   · rename_i hb; cases h; simp [binOp, Op.shift, hb, shrI]
 · unfold catB at h
   split at h
   · cases h
   · rename_i hb; cases h; simp only [binOp, Op.stringOp, hb, if_false]; rfl
 all_goals first
  | (cases h; rfl)
  | (cases h; simp [binOp, Op.stringOp]; done)
  | cases h
def unV (op : UnOp) (x : Value) : Option Value :=
 match op, x with
 | .neg, .int k n => some (.int k (k.wrap (0 - n)))
 | .xor, .int k n => some (.int k (bitsI .xor k (if k.signed then -1 else k.max) n))
 | .not, .bool b => some (.bool !b)
 | _, _ => none
theorem run_unV {P : Program} {w : World} {op : UnOp} {x v : Value} (h : unV op x = some v) : (Op.unary op x).run P w = .ok v w := by
 unfold unV at h
 split at h
 · cases h; rfl
 · cases h; rfl
 · cases h; rfl
 · cases h
def convV (P : Program) (s d : TypeId) (x : Value) : Option Value :=
 match intI P s, intI P d, x with
 | some _, some k, .int _ n => some (.int k (k.wrap n))
 | _, _, .string b => if isStr P s && isStr P d then some (.string b) else none
 | _, _, _ => none
theorem intI_eq {P : Program} {t : TypeId} {k : IntKind} (h : intI P t = some k) : P.underlying t = some (.int k) := by
 unfold intI at h
 split at h
 · cases h; assumption
 · cases h
theorem isStr_eq {P : Program} {t : TypeId} (h : isStr P t = true) : P.underlying t = some .string := by
 unfold isStr at h
 split at h
 · assumption
 · cases h
theorem run_convV {P : Program} {w : World} {s d : TypeId} {x v : Value} (h : convV P s d x = some v) : (convert s d x).run P w = .ok v w := by
 unfold convV at h
 split at h
 · rename_i hs hd
   cases h
   simp [convert, run_underlying (intI_eq hs), run_underlying (intI_eq hd), Conv.intToInt]
 · split at h
   · rename_i hb
     simp only [Bool.and_eq_true] at hb
     cases h
     simp [convert, run_underlying (isStr_eq hb.1), run_underlying (isStr_eq hb.2)]
   · cases h
 · cases h
def fieldAddrV (P : Program) (s : TypeId) (x : Value) (f : Nat) : Option Value :=
 match x with
 | .pointer (some ⟨b, o, none⟩) => (fieldI P s f).bind fun i => some (.pointer (some ⟨b, o + i.1, none⟩))
 | _ => none
theorem add_mk (b o n : Nat) : (⟨b, o, none⟩ : Addr).add n = ⟨b, o + n, none⟩ := by
 unfold Addr.add; split
 · subst n; rfl
 · rfl
theorem fieldI_eq {P : Program} {s : TypeId} {f : Nat} {i : Nat × Nat × Bool} (h : fieldI P s f = some i) :
  ∃ fs fd, P.underlying s = some (.struct fs) ∧ fs[f]? = some fd ∧ tyI P fd.type = some (i.2.1, i.2.2) ∧ i.2.1 ≠ 0 ∧ i.1 = fd.offset := by
 unfold fieldI at h
 split at h
 case h_2 => cases h
 rename_i fs hs
 split at h
 case h_2 => cases h
 rename_i fd hf
 split at h
 case h_2 => cases h
 rename_i n ag ht
 split at h
 · cases h
 · cases h; exact ⟨fs, fd, hs, hf, ht, by assumption, rfl⟩
theorem run_fieldAddrV {P : Program} {w : World} {s : TypeId} {x v : Value} {f : Nat} (h : fieldAddrV P s x f = some v) : (Instr.fieldAt s x f).run P w = .ok v w := by
 unfold fieldAddrV at h
 split at h
 case h_2 => cases h
 rename_i b o
 cases hi : fieldI P s f with
 | none => rw [hi] at h; simp at h
 | some i =>
   rw [hi] at h
   simp only [Option.bind_some, Option.some.injEq] at h
   subst h
   obtain ⟨fs, fd, hs, hf, ht, h0, ho⟩ := fieldI_eq hi
   obtain ⟨_, hsz⟩ := isAgg_of (w := w) ht
   simp [Instr.fieldAt, run_underlying hs, hf, Instr.sureAddr, fieldPlace, hsz, h0, add_mk, ho]
def partL (ag : Bool) (cs : Array Value) (o n : Nat) : Option Value :=
 if ag then some (.agg (cs.extract o (o + n))) else cs[o]?
def fieldV (P : Program) (s : TypeId) (x : Value) (f : Nat) : Option Value :=
 match x with
 | .agg cs => (fieldI P s f).bind fun i => partL i.2.2 cs i.1 i.2.1
 | _ => none
theorem run_part {P : Program} {w : World} {t : TypeId} {n : Nat} {ag : Bool} {cs : Array Value} {o : Nat} {v : Value} (ht : tyI P t = some (n, ag)) (h : partL ag cs o n = some v) :
  (part t cs o).run P w = .ok v w := by
 obtain ⟨ha, hs⟩ := isAgg_of (w := w) ht
 unfold part
 simp only [Sem.run_bind, ha, Result.andThen_ok]
 cases ag with
 | true => simp only [partL, if_true, Option.some.injEq] at h; subst h; simp [hs]
 | false => simp only [partL, Bool.false_eq_true, if_false] at h; simp [h]
theorem run_fieldV {P : Program} {w : World} {s : TypeId} {x v : Value} {f : Nat} (h : fieldV P s x f = some v) : (Instr.field s x f).run P w = .ok v w := by
 unfold fieldV at h
 split at h
 case h_2 => cases h
 rename_i cs
 cases hi : fieldI P s f with
 | none => rw [hi] at h; simp at h
 | some i =>
   rw [hi] at h
   simp only [Option.bind_some] at h
   obtain ⟨fs, fd, hs, hf, ht, h0, ho⟩ := fieldI_eq hi
   rw [ho] at h
   have := run_part (w := w) ht h
   simp [Instr.field, run_underlying hs, hf, asAgg, this]
def idxV (P : Program) (t : TypeId) (x i : Value) : Option Value :=
 match elemI P t, x, i with
 | some (some n, s, _), .pointer (some ⟨b, o, none⟩), .int _ i => if 0 ≤ i ∧ i < (n : Int) then some (.pointer (some ⟨b, o + i.toNat * s, none⟩)) else none
 | some (none, s, _), .slice (some ⟨b, o, none⟩) n _, .int _ i => if 0 ≤ i ∧ i < (n : Int) then some (.pointer (some ⟨b, o + i.toNat * s, none⟩)) else none
 | _, _, _ => none
theorem elemI_arr {P : Program} {t : TypeId} {n s : Nat} {ag : Bool} (h : elemI P t = some (some n, s, ag)) : ∃ e, P.underlying t = some (.array n e) ∧ tyI P e = some (s, ag) := by
 unfold elemI at h
 split at h
 · rename_i n' e hu
   cases ht : tyI P e with
   | none => rw [ht] at h; cases h
   | some x => rw [ht] at h; simp only [Option.map_some, Option.some.injEq, Prod.mk.injEq] at h; obtain ⟨rfl, rfl, rfl⟩ := h; exact ⟨e, hu, by simp [ht]⟩
 · rename_i e hu
   cases ht : tyI P e with
   | none => rw [ht] at h; cases h
   | some x => rw [ht] at h; simp at h
 · cases h
theorem elemI_sl {P : Program} {t : TypeId} {s : Nat} {ag : Bool} (h : elemI P t = some (none, s, ag)) : ∃ e, P.underlying t = some (.slice e) ∧ tyI P e = some (s, ag) := by
 unfold elemI at h
 split at h
 · rename_i n' e hu
   cases ht : tyI P e with
   | none => rw [ht] at h; cases h
   | some x => rw [ht] at h; simp at h
 · rename_i e hu
   cases ht : tyI P e with
   | none => rw [ht] at h; cases h
   | some x => rw [ht] at h; simp only [Option.map_some, Option.some.injEq, Prod.mk.injEq] at h; obtain ⟨_, rfl, rfl⟩ := h; exact ⟨e, hu, by simp [ht]⟩
 · cases h
theorem run_idxV {P : Program} {w : World} {t : TypeId} {x i v : Value} (h : idxV P t x i = some v) : (Instr.indexAt t x i).run P w = .ok v w := by
 unfold idxV at h
 split at h
 · rename_i n s ag b o k i he
   obtain ⟨e, hu, ht⟩ := elemI_arr he
   obtain ⟨_, hs⟩ := isAgg_of (w := w) ht
   split at h
   · rename_i hb; cases h
     simp [Instr.indexAt, asIntOf, run_underlying hu, Instr.sureAddr, hb, hs, add_mk]
   · cases h
 · rename_i s ag b o n c k i he
   obtain ⟨e, hu, ht⟩ := elemI_sl he
   obtain ⟨_, hs⟩ := isAgg_of (w := w) ht
   split at h
   · rename_i hb; cases h
     simp [Instr.indexAt, asIntOf, run_underlying hu, hb, hs, add_mk]
   · cases h
 · cases h
def indexV (P : Program) (t : TypeId) (x i : Value) : Option Value :=
 match x, i with
 | .agg cs, .int _ i => match elemI P t with
   | some (some n, s, ag) => if 0 ≤ i ∧ i < (n : Int) then partL ag cs (i.toNat * s) s else none
   | _ => none
 | .string b, .int _ i => if isStr P t then (if 0 ≤ i ∧ i < (b.size : Int) then (b.data[i.toNat]?).map (fun c => .int .u8 c.toNat) else none) else none
 | _, _ => none
theorem run_indexV {P : Program} {w : World} {t : TypeId} {x i v : Value} (h : indexV P t x i = some v) : (Instr.index t x i).run P w = .ok v w := by
 unfold indexV at h
 split at h
 · rename_i cs k i
   split at h
   · rename_i n s ag he
     obtain ⟨e, hu, ht⟩ := elemI_arr he
     obtain ⟨_, hs⟩ := isAgg_of (w := w) ht
     split at h
     · rename_i hb
       have := run_part (w := w) ht h
       simp [Instr.index, asIntOf, run_underlying hu, hb, hs, this]
     · cases h
   · cases h
 · rename_i b k i
   split at h
   · rename_i hst
     split at h
     · rename_i hb
       cases hd : b.data[i.toNat]? with
       | none => rw [hd] at h; cases h
       | some c =>
         rw [hd] at h; cases h
         have hlt : i.toNat < b.size := by have := hb.2; omega
         have : b[i.toNat]? = some c := by
          rw [getElem?_pos b i.toNat hlt]
          obtain ⟨h1, h2⟩ := Array.getElem?_eq_some_iff.1 hd
          rw [← h2]; rfl
         simp [Instr.index, asIntOf, run_underlying (isStr_eq hst), hb.1, this]
     · cases h
   · cases h
 · cases h
end Go.Ev
namespace Go.Ev
inductive CK where
 | b | i | s
def flatK (P : Program) : Nat → TypeId → Option (List CK)
 | 0, _ => none
 | d + 1, t =>
   match P.underlying t with
   | some .bool => some [.b]
   | some (.int _) => some [.i]
   | some .string => some [.s]
   | some (.array n e) => (flatK P d e).bind fun l => if l.length = P.cellsOf e then some ((List.replicate n l).flatten) else none
   | some (.struct fs) => if P.stoodInHeld t then none else
     fs.toList.foldr (fun f acc off => if f.name ≠ "_" ∧ f.offset = off then (flatK P d f.type).bind fun l => if l.length = P.cellsOf f.type then (acc (off + l.length)).map (l ++ ·) else none else none) (fun _ => some []) 0
   | _ => none
def eqC : List CK → List Value → List Value → Option Bool
 | [], [], [] => some true
 | .i :: ks, .int k a :: xs, .int k' b :: ys => if k = k' then (eqC ks xs ys).map fun r => (a == b) && r else none
 | .b :: ks, .bool a :: xs, .bool b :: ys => (eqC ks xs ys).map fun r => (a == b) && r
 | .s :: ks, .string a :: xs, .string b :: ys => (eqC ks xs ys).map fun r => (a.toList == b.toList) && r
 | _, _, _ => none
theorem eqC_length : ∀ {ks : List CK} {xs ys : List Value} {r : Bool}, eqC ks xs ys = some r → xs.length = ks.length ∧ ys.length = ks.length
 | [], xs, ys, r, h => by
   cases xs <;> cases ys <;> simp [eqC] at h ⊢
 | k :: ks, xs, ys, r, h => by
   cases xs with
   | nil => cases k <;> simp [eqC] at h
   | cons x xs =>
     cases ys with
     | nil => cases k <;> cases x <;> simp [eqC] at h
     | cons y ys =>
       have key : ∃ r', eqC ks xs ys = some r' := by
        cases hh : eqC ks xs ys with
        | some r' => exact ⟨r', rfl⟩
        | none => cases k <;> cases x <;> cases y <;> simp [eqC, hh] at h
       obtain ⟨r', hr⟩ := key
       have := eqC_length hr
       simp [this.1, this.2]
theorem eqC_append : ∀ {k1 k2 : List CK} {xs ys : List Value} {r : Bool}, eqC (k1 ++ k2) xs ys = some r →
  ∃ r1 r2, eqC k1 (xs.take k1.length) (ys.take k1.length) = some r1 ∧ eqC k2 (xs.drop k1.length) (ys.drop k1.length) = some r2 ∧ r = (r1 && r2)
 | [], k2, xs, ys, r, h => ⟨true, r, by simp [eqC], by simpa using h, by simp⟩
 | k :: k1, k2, xs, ys, r, h => by
   have hl := eqC_length h
   cases xs with
   | nil => simp at hl
   | cons x xs =>
     cases ys with
     | nil => simp at hl
     | cons y ys =>
       cases k <;> cases x <;> cases y <;> simp only [List.cons_append, eqC, reduceCtorEq] at h
       case b.bool.bool a b =>
        cases hh : eqC (k1 ++ k2) xs ys with
        | none => simp [hh] at h
        | some r' =>
          obtain ⟨r1, r2, h1, h2, h3⟩ := eqC_append hh
          simp only [hh, Option.map_some, Option.some.injEq] at h
          exact ⟨(a == b) && r1, r2, by simp [eqC, h1], by simpa using h2, by rw [← h, h3, Bool.and_assoc]⟩
       case i.int.int k a k' b =>
        split at h
        · rename_i hk
          cases hh : eqC (k1 ++ k2) xs ys with
          | none => simp [hh] at h
          | some r' =>
            obtain ⟨r1, r2, h1, h2, h3⟩ := eqC_append hh
            simp only [hh, Option.map_some, Option.some.injEq] at h
            exact ⟨(a == b) && r1, r2, by simp [eqC, h1, hk], by simpa using h2, by rw [← h, h3, Bool.and_assoc]⟩
        · cases h
       case s.string.string a b =>
        cases hh : eqC (k1 ++ k2) xs ys with
        | none => simp [hh] at h
        | some r' =>
          obtain ⟨r1, r2, h1, h2, h3⟩ := eqC_append hh
          simp only [hh, Option.map_some, Option.some.injEq] at h
          exact ⟨(a.toList == b.toList) && r1, r2, by simp [eqC, h1], by simpa using h2, by rw [← h, h3, Bool.and_assoc]⟩
theorem cellsOf_of {P : Program} {t : TypeId} {n : Nat} {ag : Bool} (h : tyI P t = some (n, ag)) : P.cellsOf t = n := by
 unfold tyI at h
 split at h <;> simp at h
 all_goals (rename_i hi hu; simp [Program.cellsOf, hi, h.1])
theorem tyI_some {P : Program} {t : TypeId} {d : TypeDesc} (h : P.underlying t = some d) : ∃ ag, tyI P t = some (P.cellsOf t, ag) ∧ (ag = true ↔ (∃ fs, d = .struct fs) ∨ ∃ n e, d = .array n e) := by
 obtain ⟨i, hi⟩ := info_of_underlying h
 unfold tyI
 rw [hi, h]
 cases d <;> simp [Program.cellsOf, hi]
theorem flat_one {P : Program} {d : Nat} {e : TypeId} {l : List CK} {n : Nat} (h : flatK P d e = some l) (ht : tyI P e = some (n, false)) : l.length = 1 := by
 cases d with
 | zero => simp [flatK] at h
 | succ d =>
   unfold flatK at h
   split at h
   · cases h; rfl
   · cases h; rfl
   · cases h; rfl
   · rename_i m e' hu
     obtain ⟨ag', ht', hag⟩ := tyI_some hu
     rw [ht] at ht'; cases ht'; simp at hag
   · rename_i fs hu
     obtain ⟨ag', ht', hag⟩ := tyI_some hu
     rw [ht] at ht'; cases ht'; simp at hag
   · cases h
theorem part_seg {ag : Bool} {n : Nat} (zs : List Value) (o : Nat) (h : ((zs.drop o).take n).length = n) (h1 : ag = false → n = 1) :
  ∃ z, partL ag zs.toArray o n = some z ∧ ofCells ag ((zs.drop o).take n) = some z := by
 cases ag with
 | true => exact ⟨_, rfl, by simp [ofCells, List.extract_eq_take_drop]⟩
 | false =>
   obtain rfl := h1 rfl
   have hlt : o < zs.length := by simp at h; omega
   refine ⟨zs[o], by simp [partL, hlt], ?_⟩
   rw [List.drop_eq_getElem_cons hlt]
   rfl
theorem flatK_under {P : Program} {d : Nat} {e : TypeId} {l : List CK} (h : flatK P d e = some l) : ∃ de, P.underlying e = some de := by
 cases hu' : P.underlying e with
 | some de => exact ⟨de, rfl⟩
 | none => cases d <;> simp [flatK, hu'] at h
theorem run_eqC {P : Program} : ∀ (d : Nat) {t : TypeId} {ks : List CK} {n : Nat} {ag : Bool} {xs ys : List Value} {x y : Value} {r : Bool} (w : World) (D : Nat),
  flatK P d t = some ks → tyI P t = some (n, ag) → ofCells ag xs = some x → ofCells ag ys = some y → eqC ks xs ys = some r → (Op.equalIn (d + D) t x y).run P w = .ok r w
 | 0, _, _, _, _, _, _, _, _, _, _, _, h, _, _, _, _ => by simp [flatK] at h
 | d + 1, t, ks, n, ag, xs, ys, x, y, r, w, D, h, hty, hx, hy, he => by
   have hd : d + 1 + D = (d + D) + 1 := by omega
   rw [hd]
   have part1 : ∀ {e : TypeId} {l : List CK} {o : Nat} {r1 : Bool}, flatK P d e = some l → l.length = P.cellsOf e →
     eqC l ((xs.drop o).take l.length) ((ys.drop o).take l.length) = some r1 →
     ∃ u v, (part e xs.toArray o).run P w = .ok u w ∧ (part e ys.toArray o).run P w = .ok v w ∧ (Op.equalIn (d + D) e u v).run P w = .ok r1 w := by
    intro e l o r1 hf hlen h1
    obtain ⟨de, hue⟩ := flatK_under hf
    obtain ⟨age, hte, _⟩ := tyI_some hue
    have hl1 := eqC_length h1
    rw [hlen] at h1 hl1
    have hone : age = false → P.cellsOf e = 1 := by
     rintro rfl
     rw [← hlen]; exact flat_one hf hte
    obtain ⟨u, hu1, hu2⟩ := part_seg xs o hl1.1 hone
    obtain ⟨v, hv1, hv2⟩ := part_seg ys o hl1.2 hone
    exact ⟨u, v, run_part hte hu1, run_part hte hv1, run_eqC d w D hf hte hu2 hv2 h1⟩
   unfold flatK at h
   split at h
   · rename_i hu
     cases h
     obtain ⟨ag', ht', hag⟩ := tyI_some hu
     rw [hty] at ht'; cases ht'
     have : ag = false := by cases ag <;> simp_all
     subst this
     have hl := eqC_length he
     match xs, ys, hl, hx, hy, he with
     | [a], [b], _, hx, hy, he =>
       cases a <;> cases b <;> simp only [eqC, reduceCtorEq] at he
       simp only [ofCells, Option.some.injEq] at hx hy
       subst hx; subst hy
       simp only [Option.map_some, Bool.and_true, Option.some.injEq] at he
       subst he
       exact run_equalIn_bool' w _ t _ _ hu
   · rename_i k hu
     cases h
     obtain ⟨ag', ht', hag⟩ := tyI_some hu
     rw [hty] at ht'; cases ht'
     have : ag = false := by cases ag <;> simp_all
     subst this
     have hl := eqC_length he
     match xs, ys, hl, hx, hy, he with
     | [a], [b], _, hx, hy, he =>
       cases a <;> cases b <;> simp only [eqC, reduceCtorEq] at he
       simp only [ofCells, Option.some.injEq] at hx hy
       subst hx; subst hy
       split at he
       · rename_i hk; subst hk
         simp only [Option.map_some, Bool.and_true, Option.some.injEq] at he
         subst he
         exact run_equalIn_int w _ t _ _ _ _ hu
       · cases he
   · rename_i hu
     cases h
     obtain ⟨ag', ht', hag⟩ := tyI_some hu
     rw [hty] at ht'; cases ht'
     have : ag = false := by cases ag <;> simp_all
     subst this
     have hl := eqC_length he
     match xs, ys, hl, hx, hy, he with
     | [a], [b], _, hx, hy, he =>
       cases a <;> cases b <;> simp only [eqC, reduceCtorEq] at he
       simp only [ofCells, Option.some.injEq] at hx hy
       subst hx; subst hy
       simp only [Option.map_some, Bool.and_true, Option.some.injEq] at he
       subst he
       exact run_equalIn_string w _ t _ _ hu
   · rename_i m e hu
     obtain ⟨ag', ht', hag⟩ := tyI_some hu
     rw [hty] at ht'; cases ht'
     have : ag = true := by simp_all
     subst this
     simp only [ofCells, Option.some.injEq] at hx hy
     subst hx; subst hy
     cases hf : flatK P d e with
     | none => simp [hf] at h
     | some l =>
       simp only [hf, Option.bind_some] at h
       split at h
       case isFalse => cases h
       rename_i hlen
       cases h
       obtain ⟨de, hue⟩ := flatK_under hf
       obtain ⟨ie, hie⟩ := info_of_underlying hue
       rw [run_equalIn_array w (d + D) xs.toArray ys.toArray hu hie]
       have key : ∀ (m k : Nat) (r : Bool), eqC ((List.replicate m l).flatten) (xs.drop (k * P.cellsOf e)) (ys.drop (k * P.cellsOf e)) = some r →
         (Op.eqItems (d + D) e (P.cellsOf e) xs.toArray ys.toArray (List.range' k m)).run P w = .ok r w := by
        intro m
        induction m with
        | zero =>
          intro k r h
          have hl := eqC_length h
          simp only [List.replicate_zero, List.flatten_nil, List.length_nil, List.length_eq_zero_iff] at hl
          simp only [List.replicate_zero, List.flatten_nil, hl.1, hl.2, eqC, Option.some.injEq] at h
          subst h
          simp [Op.eqItems]
        | succ m ih =>
          intro k r h
          rw [List.replicate_succ, List.flatten_cons] at h
          obtain ⟨r1, r2, h1, h2, rfl⟩ := eqC_append h
          obtain ⟨u, v, p1, p2, p3⟩ := part1 hf hlen h1
          rw [List.drop_drop, List.drop_drop, hlen, show k * P.cellsOf e + P.cellsOf e = (k + 1) * P.cellsOf e by rw [Nat.succ_mul]] at h2
          have h3 := ih (k + 1) r2 h2
          rw [List.range'_succ]
          simp only [Op.eqItems, Sem.run_bind, p1, p2, p3, Result.andThen_ok]
          cases r1
          · simp
          · simpa using h3
       have := key m 0 r (by simpa using he)
       rw [List.range_eq_range']
       exact this
   · rename_i fs hu
     obtain ⟨ag', ht', hag⟩ := tyI_some hu
     rw [hty] at ht'; cases ht'
     have : ag = true := by simp_all
     subst this
     simp only [ofCells, Option.some.injEq] at hx hy
     subst hx; subst hy
     split at h
     · cases h
     rename_i hst
     have hfs : P.fieldsOf t = fs := by simp [Program.fieldsOf, hu]
     rw [run_equalIn_struct w (d + D) t xs.toArray ys.toArray (by rw [hu, hfs]) (by simpa using hst), hfs]
     have key : ∀ (L : List Field) (o : Nat) (ks : List CK) (r : Bool),
       L.foldr (fun f acc off => if f.name ≠ "_" ∧ f.offset = off then (flatK P d f.type).bind fun l => if l.length = P.cellsOf f.type then (acc (off + l.length)).map (l ++ ·) else none else none) (fun _ => some []) o = some ks →
       eqC ks (xs.drop o) (ys.drop o) = some r → (Op.eqFields (d + D) xs.toArray ys.toArray L).run P w = .ok r w := by
      intro L
      induction L with
      | nil =>
        intro o ks r h he
        simp only [List.foldr_nil, Option.some.injEq] at h
        subst h
        have hl := eqC_length he
        simp only [List.length_nil, List.length_eq_zero_iff] at hl
        simp only [hl.1, hl.2, eqC, Option.some.injEq] at he
        subst he
        simp [Op.eqFields]
      | cons f L ih =>
        intro o ks r h he
        simp only [List.foldr_cons] at h
        split at h
        case isFalse => cases h
        rename_i hname
        cases hf : flatK P d f.type with
        | none => simp [hf] at h
        | some l =>
          simp only [hf, Option.bind_some] at h
          split at h
          case isFalse => cases h
          rename_i hlen
          simp only [Option.map_eq_some_iff] at h
          obtain ⟨ks2, hk2, rfl⟩ := h
          obtain ⟨r1, r2, h1, h2, rfl⟩ := eqC_append he
          obtain ⟨u, v, p1, p2, p3⟩ := part1 hf hlen h1
          rw [List.drop_drop, List.drop_drop] at h2
          have h3 := ih (o + l.length) ks2 r2 hk2 h2
          simp only [Op.eqFields, if_pos hname.1, Sem.run_bind, hname.2, p1, p2, p3, Result.andThen_ok]
          cases r1
          · simp
          · simpa using h3
     exact key fs.toList 0 ks r h (by simpa using he)
   · cases h
def eqV (P : Program) (t : TypeId) (x y : Value) : Option Bool :=
 match x, y with
 | .agg xs, .agg ys => match tyI P t with
   | some (_, true) => if P.eqGuardType P.depth t then none else (flatK P 12 t).bind fun ks => eqC ks xs.toList ys.toList
   | _ => none
 | .bool a, .bool b => match P.underlying t with
   | some .bool => some (a == b)
   | _ => none
 | .slice none _ _, .slice b _ _ => match P.underlying t with
   | some (.slice _) => some b.isNone
   | _ => none
 | .slice _ _ _, .slice none _ _ => match P.underlying t with
   | some (.slice _) => some false
   | _ => none
 | .pointer none, .pointer b => match P.underlying t with
   | some (.pointer _) => some b.isNone
   | _ => none
 | .pointer (some a), .pointer b => match P.underlying t with
   | some (.pointer e) => match b with
     | none => some false
     | some b => if a = b ∧ (P.info? e).isSome = true then some true else none
   | _ => none
 | _, _ => none
theorem run_eq_ptr {P : Program} {w : World} {t e : TypeId} (d : Nat) (b : Option Addr) (hu : P.underlying t = some (.pointer e)) :
  (Op.equalIn (d + 1) t (.pointer none) (.pointer b)).run P w = .ok b.isNone w := by simp [Op.equalIn, run_underlying hu]
theorem run_eq_ptr' {P : Program} {w : World} {t e : TypeId} (d : Nat) (a : Addr) (hu : P.underlying t = some (.pointer e)) :
  (Op.equalIn (d + 1) t (.pointer (some a)) (.pointer none)).run P w = .ok false w := by simp [Op.equalIn, run_underlying hu]
theorem run_eq_ptr2 {P : Program} {w : World} {t e : TypeId} (d : Nat) (a : Addr) (hu : P.underlying t = some (.pointer e)) (hi : (P.info? e).isSome = true) :
  (Op.equalIn (d + 1) t (.pointer (some a)) (.pointer (some a))).run P w = .ok true w := by
 obtain ⟨j, hj⟩ := Option.isSome_iff_exists.1 hi
 simp [Op.equalIn, run_underlying hu, sizeOf, typeInfo, hj, run_sameAddr_same]
theorem run_eq_sl {P : Program} {w : World} {t e : TypeId} (d n c n' c' : Nat) (b : Option Addr) (hu : P.underlying t = some (.slice e)) :
  (Op.equalIn (d + 1) t (.slice none n c) (.slice b n' c')).run P w = .ok b.isNone w := by simp [Op.equalIn, run_underlying hu]
theorem run_eq_sl' {P : Program} {w : World} {t e : TypeId} (d n c n' c' : Nat) (a : Addr) (hu : P.underlying t = some (.slice e)) :
  (Op.equalIn (d + 1) t (.slice (some a) n c) (.slice none n' c')).run P w = .ok false w := by simp [Op.equalIn, run_underlying hu]
theorem run_eqV {P : Program} {w : World} {t : TypeId} {x y : Value} {r : Bool} (h : eqV P t x y = some r) : (Op.equal t x y).run P w = .ok r w := by
 unfold Op.equal Op.maxDepth
 unfold eqV at h
 split at h
 · rename_i xs ys
   split at h
   · rename_i n hty
     split at h
     · cases h
     cases hf : flatK P 12 t with
     | none => simp [hf] at h
     | some ks =>
       simp only [hf, Option.bind_some] at h
       exact run_eqC 12 w 9988 hf hty (xs := xs.toList) (ys := ys.toList) (by simp [ofCells]) (by simp [ofCells]) h
   · cases h
 · split at h
   · rename_i hu; cases h; exact run_equalIn_bool' w _ t _ _ hu
   · cases h
 · split at h
   · rename_i e hu; cases h; exact run_eq_sl 9999 _ _ _ _ _ hu
   · cases h
 · rename_i a n c n' c' hne
   split at h
   · rename_i e hu; cases h
     cases a with
     | none => exact (hne rfl).elim
     | some a => exact run_eq_sl' 9999 _ _ _ _ _ hu
   · cases h
 · split at h
   · rename_i e hu; cases h; exact run_eq_ptr 9999 _ hu
   · cases h
 · split at h
   · rename_i e hu
     split at h
     · cases h; exact run_eq_ptr' 9999 _ hu
     · split at h
       · rename_i hc
         cases h
         obtain ⟨rfl, hi⟩ := hc
         exact run_eq_ptr2 9999 _ hu hi
       · cases h
   · cases h
 · cases h
theorem run_eqGuard_eqV {P : Program} {w : World} (op : BinOp) {t : TypeId} (x y : Operand) {a b : Value} {r : Bool} (h : eqV P t a b = some r) : (eqGuard op t x y a b).run P w = .ok () w := by
 unfold eqV at h
 split at h
 · split at h
   · split at h
     · cases h
     · rename_i hg; exact run_eqGuard_agg w op t x y _ _ (by simpa using hg)
   · cases h
 · exact run_eqGuard_plain op t x y (by simp) (by simp)
 · exact run_eqGuard_plain op t x y (by simp) (by simp)
 · exact run_eqGuard_plain op t x y (by simp) (by simp)
 · exact run_eqGuard_plain op t x y (by simp) (by simp)
 · exact run_eqGuard_plain op t x y (by simp) (by simp)
 · cases h
end Go.Ev
namespace Go.Ev
def bnd (x : Value) (y : Nat) : Option Nat :=
 match x with
 | .int _ i => if 0 ≤ i ∧ i ≤ (y : Int) then some i.toNat else none
 | _ => none
def hiB (hi : Option Value) (len cap : Nat) : Option Nat := match hi with | some v => bnd v cap | none => some len
def loB (lo : Option Value) (h : Nat) : Option Nat := match lo with | some v => bnd v h | none => some 0
def slAddr (a : Option Addr) (c l s : Nat) : Option Addr :=
 if c = l then a else match a with
  | some ⟨b, o, none⟩ => some ⟨b, o + l * s, none⟩
  | a => a.map (·.add (l * s))
def sliceV (P : Program) (t : TypeId) (x : Value) (lo hi mx : Option Value) : Option Value :=
 match mx, x with
 | none, .string b => if isStr P t then (hiB hi b.size b.size).bind fun h => (loB lo h).bind fun l => some (.string (b.extract l h)) else none
 | none, .slice a n c => match elemI P t with
   | some (none, s, _) => (hiB hi n c).bind fun h => (loB lo h).bind fun l => some (.slice (slAddr a c l s) (h - l) (c - l))
   | _ => none
 | none, .pointer (some ⟨b, o, none⟩) => match elemI P t with
   | some (some n, s, _) => (hiB hi n n).bind fun h => (loB lo h).bind fun l => some (.slice (slAddr (some ⟨b, o, none⟩) n l s) (h - l) (n - l))
   | _ => none
 | some m, .slice a _ c => match elemI P t, hi with
   | some (none, s, _), some hv => (bnd m c).bind fun M => (bnd hv M).bind fun h => (loB lo h).bind fun l => some (.slice (slAddr a M l s) (h - l) (M - l))
   | _, _ => none
 | _, _ => none
theorem run_bnd {P : Program} {w : World} {x : Value} {y n : Nat} (c : BoundsCode) (h : bnd x y = some n) : (Instr.sliceBound x y c).run P w = .ok n w := by
 unfold bnd at h
 split at h
 · split at h
   · rename_i hb; cases h; simp [Instr.sliceBound, asIntOf, hb]
   · cases h
 · cases h
theorem run_bounds {P : Program} {w : World} {isS : Bool} {len cap h l : Nat} {lo hi : Option Value} (hh : hiB hi len cap = some h) (hl : loB lo h = some l) :
  (Instr.sliceBounds isS len cap lo hi none).run P w = .ok (l, h, cap) w := by
 unfold Instr.sliceBounds
 cases hi with
 | none =>
   simp only [hiB, Option.some.injEq] at hh; subst hh
   cases lo with
   | none => simp only [loB, Option.some.injEq] at hl; subst hl; simp
   | some v => simp only [loB] at hl; simp [run_bnd _ hl]
 | some u =>
   simp only [hiB] at hh
   cases lo with
   | none => simp only [loB, Option.some.injEq] at hl; subst hl; simp [run_bnd _ hh]
   | some v => simp only [loB] at hl; simp [run_bnd _ hl, run_bnd _ hh]
theorem slAddr_eq (a : Option Addr) (c l s : Nat) : slAddr a c l s = if c = l then a else a.map (·.add (l * s)) := by
 unfold slAddr
 split
 · rfl
 · split
   · simp [add_mk]
   · rfl
theorem run_sliceV {P : Program} {w : World} {t : TypeId} {x v : Value} {lo hi mx : Option Value} (h : sliceV P t x lo hi mx = some v) : (Instr.sliceAt t x lo hi mx).run P w = .ok v w := by
 unfold sliceV at h
 split at h
 · rename_i b
   split at h
   case isFalse => cases h
   rename_i hs
   cases hh : hiB hi b.size b.size with
   | none => simp [hh] at h
   | some h' =>
     simp only [hh, Option.bind_some] at h
     cases hl : loB lo h' with
     | none => simp [hl] at h
     | some l' =>
       simp only [hl, Option.bind_some, Option.some.injEq] at h
       subst h
       simp [Instr.sliceAt, run_underlying (isStr_eq hs), Instr.slice, run_bounds hh hl]
 · rename_i a n c
   split at h
   case h_2 => cases h
   rename_i s ag he
   obtain ⟨e, hu, ht⟩ := elemI_sl he
   obtain ⟨_, hsz⟩ := isAgg_of (w := w) ht
   cases hh : hiB hi n c with
   | none => simp [hh] at h
   | some h' =>
     simp only [hh, Option.bind_some] at h
     cases hl : loB lo h' with
     | none => simp [hl] at h
     | some l' =>
       simp only [hl, Option.bind_some, Option.some.injEq] at h
       subst h
       simp [Instr.sliceAt, run_underlying hu, Instr.slice, run_bounds hh hl, hsz, slAddr_eq]
 · rename_i b o
   split at h
   case h_2 => cases h
   rename_i n s ag he
   obtain ⟨e, hu, ht⟩ := elemI_arr he
   obtain ⟨_, hsz⟩ := isAgg_of (w := w) ht
   cases hh : hiB hi n n with
   | none => simp [hh] at h
   | some h' =>
     simp only [hh, Option.bind_some] at h
     cases hl : loB lo h' with
     | none => simp [hl] at h
     | some l' =>
       simp only [hl, Option.bind_some, Option.some.injEq] at h
       subst h
       simp only [Instr.sliceAt, Sem.run_bind, run_underlying hu, Result.andThen_ok, Instr.sureAddr, Sem.run_pure, run_bounds hh hl, hsz, slAddr_eq]
       split <;> rfl
 · rename_i m a n c
   split at h
   case h_2 => cases h
   rename_i s ag hv he
   obtain ⟨e, hu, ht⟩ := elemI_sl he
   obtain ⟨_, hsz⟩ := isAgg_of (w := w) ht
   obtain ⟨M, hM, h⟩ := Option.bind_eq_some_iff.1 h
   obtain ⟨h', hh, h⟩ := Option.bind_eq_some_iff.1 h
   obtain ⟨l', hl, h⟩ := Option.bind_eq_some_iff.1 h
   cases h
   have hb : (Instr.sliceBounds true n c lo (some hv) (some m)).run P w = .ok (l', h', M) w := by
    unfold Instr.sliceBounds
    cases lo with
    | none => simp only [loB, Option.some.injEq] at hl; subst hl; simp [run_bnd _ hM, run_bnd _ hh]
    | some v => simp only [loB] at hl; simp [run_bnd _ hl, run_bnd _ hM, run_bnd _ hh]
   simp [Instr.sliceAt, run_underlying hu, Instr.slice, hb, hsz, slAddr_eq]
 · cases h
def setSeg (l : List Value) (o : Nat) (vs : List Value) : List Value := l.take o ++ vs ++ l.drop (o + vs.length)
theorem foldl_setIf (o : Nat) : ∀ (vs : List Value) (k : Nat) (l : List Value), o + k + vs.length ≤ l.length →
  (vs.zipIdx k).foldl (fun cs (x : Value × Nat) => cs.setIfInBounds (o + x.2) x.1) l.toArray = (l.take (o + k) ++ vs ++ l.drop (o + k + vs.length)).toArray
 | [], k, l, h => by simp
 | v :: vs, k, l, h => by
   have hlt : o + k < l.length := by simp at h; omega
   simp only [List.zipIdx_cons, List.foldl_cons, List.setIfInBounds_toArray]
   rw [foldl_setIf o vs (k + 1) (l.set (o + k) v) (by simp at h ⊢; omega)]
   congr 1
   rw [show o + (k + 1) = o + k + 1 by omega]
   rw [List.take_succ_eq_append_getElem (by simpa using hlt)]
   simp only [List.getElem_set_self, List.length_cons, List.append_assoc, List.cons_append, List.nil_append]
   rw [List.take_set_of_le (Nat.le_refl _), List.drop_set_of_lt (by omega)]
   rw [show o + k + 1 + vs.length = o + k + (vs.length + 1) by omega]
def fillL (place : Nat → Option (Nat × Nat)) (l : List Value) : List (Nat × Value) → Option (List Value)
 | [] => some l
 | (i, v) :: r => (place i).bind fun x => if v.cells.toList.length = x.2 ∧ x.1 + x.2 ≤ l.length then fillL place (setSeg l x.1 v.cells.toList) r else none
theorem fillL_eq {place place' : Nat → Option (Nat × Nat)} (hp : ∀ i x, place i = some x → place' i = some x) : ∀ (ps : List (Nat × Value)) (l r : List Value), fillL place l ps = some r → Instr.fill place' l.toArray ps = some r.toArray
 | [], l, r, h => by simp only [fillL, Option.some.injEq] at h; subst h; rfl
 | (i, v) :: ps, l, r, h => by
   simp only [fillL] at h
   cases hx : place i with
   | none => simp [hx] at h
   | some x =>
     obtain ⟨o, s⟩ := x
     simp only [hx, Option.bind_some] at h
     split at h
     case isFalse => cases h
     rename_i hb
     simp only [Instr.fill, hp i _ hx]
     have hsz : v.cells.size = s := by simpa using hb.1
     rw [if_neg (by simp [hsz]; simpa using hb.2)]
     have := foldl_setIf o v.cells.toList 0 l (by simp [hsz]; simpa using hb.2)
     have h2 : v.cells.zipIdx.foldl (fun cs (x : Value × Nat) => cs.setIfInBounds (o + x.2) x.1) l.toArray = (setSeg l o v.cells.toList).toArray := by
      rw [← Array.foldl_toList, Array.toList_zipIdx, this]
      simp [setSeg]
     have h3 : (v.cells.zipIdx.foldl (fun cs (c, j) => cs.setIfInBounds (o + j) c) l.toArray) = (setSeg l o v.cells.toList).toArray := h2
     rw [h3]
     exact fillL_eq hp ps _ r h
def optL {α : Type} : List (Option α) → Option (List α)
 | [] => some []
 | x :: r => x.bind fun a => (optL r).map (a :: ·)
def placeOf (P : Program) (t : TypeId) (i : Nat) : Option (Nat × Nat) :=
 match P.underlying t with
 | some (.struct _) => (fieldI P t i).map fun x => (x.1, x.2.1)
 | some (.array _ _) => match elemI P t with
   | some (_, s, _) => some (i * s, s)
   | none => none
 | _ => none
def buildV (P : Program) (t : TypeId) (parts : List (Nat × Value)) : Option Value :=
 (zeroL P t).bind fun z => if parts = [] then some (.agg z.toArray) else (fillL (placeOf P t) z parts).map fun l => .agg l.toArray
theorem run_zeroL {P : Program} {w : World} {t : TypeId} {z : List Value} (h : zeroL P t = some z) : ∃ v, (zeroValue t).run P w = .ok v w ∧ v.cells.toList = z := by
 unfold zeroL at h
 split at h
 · rename_i i hi
   cases hz : i.zero with
   | none => simp [hz] at h
   | some v => simp only [hz, Option.map_some, Option.some.injEq] at h; exact ⟨v, by simp [zeroValue, typeInfo, hi, hz], h⟩
 · cases h
theorem mapM_sizes {P : Program} {w : World} : ∀ (fs : List Field), (∀ f ∈ fs, ∃ i, P.info? f.type = some i) →
  ∃ ps : List (Nat × Nat), (fs.mapM (fun (f : Field) => (do pure (f.offset, ← sizeOf f.type) : Sem (Nat × Nat)))).run P w = .ok ps w ∧ ps.length = fs.length ∧ ∀ (k : Nat) (f : Field), fs[k]? = some f → ps[k]? = some (f.offset, P.cellsOf f.type)
 | [], _ => ⟨[], by simp, rfl, by simp⟩
 | f :: fs, h => by
   obtain ⟨ps, h1, h2, h3⟩ := mapM_sizes (w := w) fs (fun g hg => h g (by simp [hg]))
   obtain ⟨i, hi⟩ := h f (by simp)
   refine ⟨(f.offset, P.cellsOf f.type) :: ps, by rw [List.mapM_cons]; simp only [Sem.run_bind, run_sizeOf w hi, Result.andThen_ok, Sem.run_pure, h1], by simp [h2], fun k g hk => ?_⟩
   cases k with
   | zero => simp at hk; subst hk; rfl
   | succ k => simpa using h3 k g (by simpa using hk)
def fieldsOk (P : Program) (t : TypeId) : Bool :=
 match P.underlying t with
 | some (.struct fs) => fs.toList.all fun f => (P.info? f.type).isSome
 | some (.array _ e) => (P.info? e).isSome
 | _ => false
theorem run_buildV {P : Program} {w : World} {t : TypeId} {parts : List (Nat × Value)} {v : Value} (ho : fieldsOk P t = true) (h : buildV P t parts = some v) : (Instr.build t parts.toArray).run P w = .ok v w := by
 unfold buildV at h
 cases hz : zeroL P t with
 | none => simp [hz] at h
 | some z =>
   simp only [hz, Option.bind_some] at h
   obtain ⟨zv, hz1, hz2⟩ := run_zeroL (w := w) hz
   have h : (fillL (placeOf P t) z parts).map (fun l => Value.agg l.toArray) = some v := by
    split at h
    · rename_i hp; subst hp; simpa [fillL] using h
    · exact h
   simp only [Option.map_eq_some_iff] at h
   obtain ⟨r, hr, rfl⟩ := h
   have hzc : zv.cells = z.toArray := by rw [← hz2]
   unfold fieldsOk at ho
   split at ho
   · rename_i fs hu
     have hall : ∀ f ∈ fs.toList, ∃ i, P.info? f.type = some i := fun f hf => by
      have := (List.all_eq_true.1 ho) f hf
      exact Option.isSome_iff_exists.1 this
     obtain ⟨ps, p1, p2, p3⟩ := mapM_sizes (w := w) fs.toList hall
     have hf : Instr.fill (fun i => ps.toArray[i]?) z.toArray parts = some r.toArray := by
      refine fillL_eq (place := placeOf P t) (fun i x hx => ?_) parts z r hr
      simp only [placeOf, hu, Option.map_eq_some_iff] at hx
      obtain ⟨y, hy, rfl⟩ := hx
      obtain ⟨fs', fd, hs', hfd, hty, _, ho'⟩ := fieldI_eq hy
      rw [hu] at hs'; cases hs'
      have := p3 i fd (by simpa using hfd)
      rw [cellsOf_of hty, ← ho'] at this
      simpa using this
     simp only [Instr.build, Sem.run_bind, hz1, Result.andThen_ok, run_underlying hu, hzc]
     rw [Array.mapM_eq_mapM_toList]
     simp only [Sem.run_map, p1, Result.andThen_ok]
     rw [show (fun x => ps.toArray[x]?) = (fun i => ps.toArray[i]?) from rfl, hf]
     rfl
   · rename_i n e hu
     obtain ⟨i, hi⟩ := Option.isSome_iff_exists.1 ho
     have hf : Instr.fill (fun i => some (i * P.cellsOf e, P.cellsOf e)) z.toArray parts = some r.toArray := by
      refine fillL_eq (place := placeOf P t) (fun i x hx => ?_) parts z r hr
      simp only [placeOf, hu] at hx
      split at hx
      · rename_i a s ag he
        cases hx
        unfold elemI at he
        rw [hu] at he
        simp only [Option.map_eq_some_iff] at he
        obtain ⟨y, hy, hy2⟩ := he
        cases hy2
        rw [cellsOf_of (n := y.1) (ag := y.2) (by simpa using hy)]
      · cases hx
     simp only [Instr.build, Sem.run_bind, hz1, Result.andThen_ok, run_underlying hu, hzc, run_sizeOf w hi, hf]
     rfl
   · cases ho
def lenV (P : Program) (t : TypeId) (x : Value) : Option Value :=
 match x with
 | .string b => if isStr P t then some (.int .i64 b.size) else none
 | .slice _ n _ => match elemI P t with
   | some (none, _, _) => some (.int .i64 n)
   | _ => none
 | _ => match elemI P t with
   | some (some n, _, _) => some (.int .i64 n)
   | _ => none
theorem run_lenV {P : Program} {w : World} {t : TypeId} {x v : Value} (tys : Array TypeId) (h : lenV P t x = some v) (h0 : tys[0]? = some t) (ty : TypeId) : (Builtin.len_ tys ty #[x]).run P w = .ok v w := by
 unfold lenV at h
 split at h
 · split at h
   · rename_i hs; cases h; simp [Builtin.len_, h0, run_underlying (isStr_eq hs), goInt]
   · cases h
 · split at h
   · rename_i he; cases h; obtain ⟨e, hu, _⟩ := elemI_sl he; simp [Builtin.len_, h0, run_underlying hu, goInt]
   · cases h
 · split at h
   · rename_i he; cases h; obtain ⟨e, hu, _⟩ := elemI_arr he; simp [Builtin.len_, h0, run_underlying hu, goInt]
   · cases h
def minL : List Value → Option Value
 | [.int k a, .int _ b] => some (.int k (if b < a then b else a))
 | _ => none
def maxL : List Value → Option Value
 | [.int k a, .int _ b] => some (.int k (if b > a then b else a))
 | _ => none
theorem run_minL {P : Program} {w : World} {l : List Value} {v : Value} (tys : Array TypeId) (ty : TypeId) (h : minL l = some v) : (Builtin.min_ tys ty l.toArray).run P w = .ok v w := by
 unfold minL at h
 split at h
 · cases h; simp [Builtin.min_, Builtin.min2]
 · cases h
theorem run_maxL {P : Program} {w : World} {l : List Value} {v : Value} (tys : Array TypeId) (ty : TypeId) (h : maxL l = some v) : (Builtin.max_ tys ty l.toArray).run P w = .ok v w := by
 unfold maxL at h
 split at h
 · cases h; simp [Builtin.max_, Builtin.max2]
 · cases h
def pickV : Value → Value → Value → Option Value
 | .bool true, a, _ => some a
 | .bool false, _, b => some b
 | _, _, _ => none
def extractV (t : Value) (i : Nat) : Option Value :=
 match t with
 | .tuple vs => vs[i]?
 | _ => none
def binQ (P : Program) (op : BinOp) (t : TypeId) (x y : Value) : Option Value :=
 match op, x, y with
 | .eql, .agg a, .agg b => (eqV P t (.agg a) (.agg b)).map .bool
 | .neq, .agg a, .agg b => (eqV P t (.agg a) (.agg b)).map fun r => .bool !r
 | .eql, .bool a, .bool b => (eqV P t (.bool a) (.bool b)).map .bool
 | .neq, .bool a, .bool b => (eqV P t (.bool a) (.bool b)).map fun r => .bool !r
 | .eql, .slice a n c, y => (eqV P t (.slice a n c) y).map .bool
 | .neq, .slice a n c, y => (eqV P t (.slice a n c) y).map fun r => .bool !r
 | .eql, .pointer a, y => (eqV P t (.pointer a) y).map .bool
 | .neq, .pointer a, y => (eqV P t (.pointer a) y).map fun r => .bool !r
 | op, x, y => binV op x y
theorem run_binQ {P : Program} {w : World} {op : BinOp} {t : TypeId} {x y v : Value} (a b : Operand) (h : binQ P op t x y = some v) :
  (do eqGuard op t a b x y; binOp op t x y : Sem Value).run P w = .ok v w := by
 have hq : ∀ {r : Bool}, eqV P t x y = some r → (do eqGuard op t a b x y; binOp op t x y : Sem Value).run P w = (binOp op t x y).run P w := fun hr => by
  simp [run_eqGuard_eqV op a b hr]
 unfold binQ at h
 split at h
 case h_9 =>
  have h1 := run_binV (P := P) (w := w) t h
  rw [Sem.run_bind, run_eqGuard_plain op t a b, Result.andThen_ok, h1]
  · intro hh; subst hh; cases op <;> simp [binV] at h
  · intro c hh; subst hh; cases op <;> simp [binV] at h
 all_goals
  simp only [Option.map_eq_some_iff] at h
  obtain ⟨r, hr, rfl⟩ := h
  rw [hq hr]
  simp [binOp, run_eqV hr]
def ptrV : Value → Option Value
 | .pointer (some a) => some (.pointer (some a))
 | _ => none
def dataV : Value → Option Value
 | .slice none _ _ => some (.pointer none)
 | .slice (some a) _ c => if c ≠ 0 then some (.pointer (some a)) else none
 | _ => none
theorem run_dataV {P : Program} {w : World} {x v : Value} (ts : Array TypeId) (ty : TypeId) (h : dataV x = some v) : (Builtin.unsafeSliceData_ ts ty #[x]).run P w = .ok v w := by
 unfold dataV at h
 split at h
 · cases h; rfl
 · split at h
   · rename_i hc
     cases h
     exact Lib.run_unsafeSliceData_row _ _ _ _ _ _ hc
   · cases h
 · cases h
def isNilC : Operand → Bool
 | .const .nilIface => true
 | _ => false
def isIf (P : Program) (t : TypeId) : Bool := match P.underlying t with
 | some (.interface _) => true
 | _ => false
def isCon (P : Program) (t : TypeId) : Bool := match P.underlying t with
 | some (.interface _) => false
 | some _ => true
 | none => false
def nilQ (P : Program) (op : BinOp) (t : TypeId) (x : Value) : Option Value :=
 match op, x with
 | .eql, .nilIface => if isIf P t then some (.bool true) else none
 | .neq, .nilIface => if isIf P t then some (.bool false) else none
 | .eql, .iface _ _ => if isIf P t then some (.bool false) else none
 | .neq, .iface _ _ => if isIf P t then some (.bool true) else none
 | _, _ => none
def ifaceV (P : Program) (t : TypeId) (x : Value) : Option Value := if isCon P t then some (.iface t x) else none
theorem isNilC_eq {y : Operand} (h : isNilC y = true) : y = .const .nilIface := by
 unfold isNilC at h
 split at h
 · rfl
 · cases h
theorem run_nilQ {P : Program} {w : World} {op : BinOp} {t : TypeId} {x v : Value} (a : Operand) (h : nilQ P op t x = some v) :
  (do eqGuard op t a (.const .nilIface) x .nilIface; binOp op t x .nilIface : Sem Value).run P w = .ok v w := by
 have hi : isIf P t = true := by
  unfold nilQ at h
  split at h
  all_goals first
   | (split at h
      · assumption
      · cases h)
   | cases h
 obtain ⟨ms, hu⟩ : ∃ ms, P.underlying t = some (.interface ms) := by
  unfold isIf at hi
  split at hi
  · exact ⟨_, by assumption⟩
  · cases hi
 have hn : ∀ d : Nat, (Op.equalIn (d + 1) t .nilIface .nilIface).run P w = .ok true w := fun d => by simp [Op.equalIn, run_underlying hu]
 have hf : ∀ (d : Nat) (a : TypeId) (b : Value), (Op.equalIn (d + 1) t (.iface a b) .nilIface).run P w = .ok false w := fun d a b => by simp [Op.equalIn, run_underlying hu]
 unfold nilQ at h
 simp only [hi, if_true] at h
 split at h
 case h_5 => cases h
 all_goals
  cases h
  simp only [binOp, eqGuard]
  simp [Op.equal, Op.maxDepth, hn 9999, hf 9999]
theorem run_ifaceV {P : Program} {w : World} {t : TypeId} {x v : Value} (h : ifaceV P t x = some v) : (Instr.makeInterface t x).run P w = .ok v w := by
 unfold ifaceV at h
 split at h
 · rename_i hc
   cases h
   unfold isCon at hc
   split at hc
   · cases hc
   · rename_i d hd hu
     simp only [Instr.makeInterface, Sem.run_bind, run_underlying hu, Result.andThen_ok]
     rfl
   · cases hc
 · cases h
def evQ (P : Program) (T : Tm) (H : Hp) (op : Op) : Option Value :=
 match op with
 | .move x => opd T x
 | .assign x => opd T x
 | .pick c a b => (opd T c).bind fun c => (opd T a).bind fun a => (opd T b).bind fun b => pickV c a b
 | .load t p => (opd T p).bind fun p => loadV P H t p
 | .binOp op t x y _ => (opd T x).bind fun x => if isNilC y then nilQ P op t x else (opd T y).bind fun y => binQ P op t x y
 | .makeInterface t x => (opd T x).bind fun x => ifaceV P t x
 | .unOp op _ x => (opd T x).bind fun x => unV op x
 | .convert s d x => (opd T x).bind fun x => convV P s d x
 | .fieldAddr s x f => (opd T x).bind fun x => fieldAddrV P s x f
 | .field s x f => (opd T x).bind fun x => fieldV P s x f
 | .indexAddr t x i => (opd T x).bind fun x => (opd T i).bind fun i => idxV P t x i
 | .index t x i => (opd T x).bind fun x => (opd T i).bind fun i => indexV P t x i
 | .slice t x lo hi mx => (opd T x).bind fun x => (optL ((lo.map (opd T)).toList)).bind fun lo => (optL ((hi.map (opd T)).toList)).bind fun hi => (optL ((mx.map (opd T)).toList)).bind fun mx => sliceV P t x lo.head? hi.head? mx.head?
 | .extract t i => (opd T t).bind fun t => extractV t i
 | .build t parts => if fieldsOk P t then (optL (parts.toList.map fun x => (opd T x.2).map fun v => (x.1, v))).bind fun ps => buildV P t ps else none
 | .makeFunc fn first captured => (optL (first.toList.map (opd T))).bind fun a => (optL (captured.toList.map (opd T))).bind fun b => some (.func fn a.toArray b.toArray)
 | .call { callee := .builtin b, args, argTypes } => (optL (args.toList.map (opd T))).bind fun vs =>
   match b, vs with
   | .len, [x] => match argTypes[0]? with
     | some t => lenV P t x
     | none => none
   | .min, vs => minL vs
   | .max, vs => maxL vs
   | .unsafeSliceData, [x] => dataV x
   | _, _ => none
 | .nilCheck x => (opd T x).bind fun x => ptrV x
 | _ => none
theorem optL_eval {n : Nat} {T : Tm} {a : Act} (h : TRel n T a) : ∀ {l : List Operand} {vs : List Value}, optL (l.map (opd T)) = some vs → l.map a.eval = vs
 | [], vs, hh => by simp only [List.map_nil, optL, Option.some.injEq] at hh; subst hh; rfl
 | x :: l, vs, hh => by
   simp only [List.map_cons, optL] at hh
   cases hx : opd T x with
   | none => simp [hx] at hh
   | some v =>
     simp only [hx, Option.bind_some, Option.map_eq_some_iff] at hh
     obtain ⟨r, hr, rfl⟩ := hh
     simp [opd_eval h hx, optL_eval h hr]
theorem optL_opt {n : Nat} {T : Tm} {a : Act} (h : TRel n T a) {x : Option Operand} {vs : List Value} (hh : optL ((x.map (opd T)).toList) = some vs) : x.map a.eval = vs.head? := by
 cases x with
 | none => simp only [Option.map_none, Option.toList_none, optL, Option.some.injEq] at hh; subst hh; rfl
 | some x =>
   simp only [Option.map_some, Option.toList_some, optL] at hh
   cases hx : opd T x with
   | none => simp [hx] at hh
   | some v => simp only [hx, Option.bind_some, Option.some.injEq] at hh; subst hh; simp [opd_eval h hx]
theorem optL_parts {n : Nat} {T : Tm} {a : Act} (h : TRel n T a) : ∀ {l : List (Nat × Operand)} {vs : List (Nat × Value)}, optL (l.map fun x => (opd T x.2).map fun v => (x.1, v)) = some vs → l.map (fun x => (x.1, a.eval x.2)) = vs
 | [], vs, hh => by simp only [List.map_nil, optL, Option.some.injEq] at hh; subst hh; rfl
 | x :: l, vs, hh => by
   simp only [List.map_cons, optL] at hh
   cases hx : opd T x.2 with
   | none => simp [hx] at hh
   | some v =>
     simp only [hx, Option.map_some, Option.bind_some, Option.map_eq_some_iff] at hh
     obtain ⟨r, hr, rfl⟩ := hh
     simp [opd_eval h hx, optL_parts h hr]
theorem run_evQ {P : Program} {n : Nat} {T : Tm} {H : Hp} {a : Act} {w0 w : World} {mu : Nat → Prop} (ht : TRel n T a) (hs : Sat w0 mu H w) {o : Oper} {v : Value} (h : evQ P T H o.op = some v) :
  (execOp a.eval o).run P w = .ok (.value v) w := by
 obtain ⟨dst, op, type, pos, after, guard⟩ := o
 dsimp only at h
 unfold evQ at h
 split at h
 · simp only [execOp, opd_eval ht h, Sem.run_pure]
 · simp only [execOp, opd_eval ht h, Sem.run_pure]
 · simp only [Option.bind_eq_some_iff] at h
   obtain ⟨c, hc, x, hx, y, hy, h⟩ := h
   simp only [execOp, opd_eval ht hc, opd_eval ht hx, opd_eval ht hy]
   unfold pickV at h
   split at h
   · cases h; simp [asBool]
   · cases h; simp [asBool]
   · cases h
 · simp only [Option.bind_eq_some_iff] at h
   obtain ⟨p, hp, h⟩ := h
   simp [execOp, opd_eval ht hp, run_loadV hs h]
 · simp only [Option.bind_eq_some_iff] at h
   obtain ⟨x, hx, h⟩ := h
   split at h
   · rename_i hy
     obtain rfl := isNilC_eq hy
     have he : a.eval (.const .nilIface) = .nilIface := rfl
     simp only [execOp, opd_eval ht hx, he]
     rw [Sem.run_bind, run_nilQ _ h]
     rfl
   simp only [Option.bind_eq_some_iff] at h
   obtain ⟨y, hy, h⟩ := h
   simp only [execOp, opd_eval ht hx, opd_eval ht hy]
   rw [Sem.run_bind, run_binQ _ _ h]
   rfl
 · simp only [Option.bind_eq_some_iff] at h
   obtain ⟨x, hx, h⟩ := h
   simp [execOp, opd_eval ht hx, run_ifaceV h]
 · simp only [Option.bind_eq_some_iff] at h
   obtain ⟨x, hx, h⟩ := h
   simp [execOp, opd_eval ht hx, run_unV h]
 · simp only [Option.bind_eq_some_iff] at h
   obtain ⟨x, hx, h⟩ := h
   simp [execOp, opd_eval ht hx, run_convV h]
 · simp only [Option.bind_eq_some_iff] at h
   obtain ⟨x, hx, h⟩ := h
   simp [execOp, opd_eval ht hx, run_fieldAddrV h]
 · simp only [Option.bind_eq_some_iff] at h
   obtain ⟨x, hx, h⟩ := h
   simp [execOp, opd_eval ht hx, run_fieldV h]
 · simp only [Option.bind_eq_some_iff] at h
   obtain ⟨x, hx, y, hy, h⟩ := h
   simp [execOp, opd_eval ht hx, opd_eval ht hy, run_idxV h]
 · simp only [Option.bind_eq_some_iff] at h
   obtain ⟨x, hx, y, hy, h⟩ := h
   simp [execOp, opd_eval ht hx, opd_eval ht hy, run_indexV h]
 · rename_i t x lo hi mx
   simp only [Option.bind_eq_some_iff] at h
   obtain ⟨x', hx, l, hl, r, hr, q, hq, h⟩ := h
   simp [execOp, opd_eval ht hx, optL_opt ht hl, optL_opt ht hr, optL_opt ht hq, run_sliceV h]
 · simp only [Option.bind_eq_some_iff] at h
   obtain ⟨x, hx, h⟩ := h
   unfold extractV at h
   split at h
   · simp [execOp, opd_eval ht hx, Instr.extract, h]
   · cases h
 · split at h
   · rename_i t parts ho
     simp only [Option.bind_eq_some_iff] at h
     obtain ⟨ps, hp, h⟩ := h
     have := run_buildV (w := w) ho h
     simp only [execOp]
     rw [show (parts.map fun (i, x) => (i, a.eval x)) = ps.toArray by rw [← optL_parts ht hp, ← Array.toList_inj]; simp]
     simp [this]
   · cases h
 · rename_i fn first captured
   simp only [Option.bind_eq_some_iff] at h
   obtain ⟨x, hx, y, hy, h⟩ := h
   cases h
   simp only [execOp]
   rw [show first.map a.eval = x.toArray by rw [← optL_eval ht hx, ← Array.toList_inj]; simp, show captured.map a.eval = y.toArray by rw [← optL_eval ht hy, ← Array.toList_inj]; simp]
   rfl
 · rename_i b args argTypes
   simp only [Option.bind_eq_some_iff] at h
   obtain ⟨vs, hv, h⟩ := h
   have hargs : args.map a.eval = vs.toArray := by rw [← optL_eval ht hv, ← Array.toList_inj]; simp
   split at h
   · split at h
     · rename_i t h0
       have := run_lenV (w := w) argTypes h h0 type
       simp [execOp, resolve, hargs, invoke, builtin, this]
     · cases h
   · have := run_minL (P := P) (w := w) argTypes type h
     simp [execOp, resolve, hargs, invoke, builtin, this]
   · have := run_maxL (P := P) (w := w) argTypes type h
     simp [execOp, resolve, hargs, invoke, builtin, this]
   · have := run_dataV (P := P) (w := w) argTypes type h
     simp [execOp, resolve, hargs, invoke, builtin, this]
   · cases h
 · rename_i x
   simp only [Option.bind_eq_some_iff] at h
   obtain ⟨y, hy, h⟩ := h
   unfold ptrV at h
   split at h
   · cases h
     simp [execOp, opd_eval ht hy]
   · cases h
 · cases h
end Go.Ev
namespace Go.Ev
open Go.RowKit
theorem Ent.holds_of {w w' : World} {e : Ent} (h : e.holds w) (hb : w'.heap[e.blk]? = w.heap[e.blk]?) : e.holds w' := by
 have hlt := Ent.lt h
 have hlt' : e.blk < w'.heap.size := by
  rw [Array.getElem?_eq_getElem hlt] at hb
  exact (Array.getElem?_eq_some_iff.1 hb).1
 unfold Ent.holds at h ⊢
 split <;> rename_i hk <;> rw [hk] at h <;> dsimp only at h ⊢
 · refine ⟨hlt', fun k v hk => ?_⟩
   have := h.2 k v hk
   simp only [World.cell?, hb] at this ⊢
   exact this
 · rwa [hb]
 · rwa [hb]
 · rwa [hb]
structure Turn (b : Nat) (w w' : World) : Prop where
 os : w'.os = w.os
 tape : w'.tape = w.tape
 output : w'.output = w.output
 size : w.heap.size ≤ w'.heap.size
 same : ∀ k, k < w.heap.size → k ≠ b → w'.heap[k]? = w.heap[k]?
section
variable {w0 w w' : World} {mu : Nat → Prop} {H : Hp} {b : Nat}
theorem Sat.old_turn (h : Sat w0 mu H w) (ht : Turn b w w') (hb : mu b ∨ w0.heap.size ≤ b) : ∀ k, k < w0.heap.size → ¬ mu k → w'.heap[k]? = w0.heap[k]? := fun k hk hm => by
 have hne : k ≠ b := by
  rintro rfl
  rcases hb with hb | hb
  · exact hm hb
  · omega
 rw [ht.same k (Nat.lt_of_lt_of_le hk h.size) hne]
 exact h.old k hk hm
def fresh (b : Nat) : Hp → Prop
 | [] => True
 | e :: r => b ≠ e.blk ∧ e.blk ≠ b ∧ fresh b r
theorem fresh_of {b : Nat} : ∀ {H : Hp}, (∀ e ∈ H, e.blk ≠ b) → fresh b H
 | [], _ => trivial
 | e :: r, h => ⟨(h e (by simp)).symm, h e (by simp), fresh_of fun e he => h e (by simp [he])⟩
theorem fresh_ne {b : Nat} : ∀ {H : Hp}, fresh b H → ∀ e ∈ H, e.blk ≠ b
 | [], _, e, he => by cases he
 | x :: r, h, e, he => by
   rcases List.mem_cons.1 he with rfl | he
   · exact h.2.1
   · exact fresh_ne h.2.2 e he
theorem Sat.fresh_size (h : Sat w0 mu H w) : fresh w.heap.size H := fresh_of fun e he => by have := Ent.lt (h.ents e he); omega
theorem Sat.front (h : Sat w0 mu H w) (ht : Turn b w w') (hb : mu b ∨ w0.heap.size ≤ b) {e : Ent} (he : e.blk = b) (hh : e.holds w') {H' : Hp} (hsub : ∀ x ∈ H', x ∈ H ∧ x.blk ≠ b) (hap : H'.Pairwise fun e f => (e.wr ∨ f.wr) → e.blk ≠ f.blk) :
  Sat w0 mu (e :: H') w' := by
 refine ⟨ht.os.trans h.os, ht.tape.trans h.tape, ht.output.trans h.output, Nat.le_trans h.size ht.size, h.old_turn ht hb, ?_, ?_, ?_⟩
 · intro x hx
   rcases List.mem_cons.1 hx with rfl | hx
   · exact hh
   · obtain ⟨h1, h2⟩ := hsub x hx
     exact Ent.holds_of (h.ents x h1) (ht.same _ (Ent.lt (h.ents x h1)) h2)
 · intro x hx hw
   rcases List.mem_cons.1 hx with rfl | hx
   · rw [he]; exact hb
   · exact h.own x (hsub x hx).1 hw
 · refine List.pairwise_cons.2 ⟨fun x hx _ => ?_, hap⟩
   rw [he]; exact (hsub x hx).2.symm
theorem Turn.alloc (w : World) (o : Obj) : Turn w.heap.size w (w.alloc o) :=
 ⟨rfl, rfl, rfl, by simp, fun k hk _ => Below.heap_alloc w o k hk⟩
theorem Sat.alloc (h : Sat w0 mu H w) {e : Ent} (he : e.blk = w.heap.size) {o : Obj} (hh : e.holds (w.alloc o)) : Sat w0 mu (e :: H) (w.alloc o) :=
 h.front (Turn.alloc w o) (.inr h.size) he hh (fun x hx => ⟨hx, by have := Ent.lt (h.ents x hx); omega⟩) h.apart
theorem Sat.drew (h : Sat w0 mu H w) : Sat w0 mu H { w with drawn := w.drawn + 1 } :=
 ⟨h.os, h.tape, h.output, h.size, h.old, fun e he => Ent.holds_of (h.ents e he) rfl, h.own, h.apart⟩
def updE : Hp → Nat → List Value → Hp
 | [], _, _ => []
 | e :: r, b, cs => if b = e.blk then { e with cells := cs } :: r else e :: updE r b cs
theorem marks_updE : ∀ (H : Hp) (b : Nat) (cs : List Value), marksOf (updE H b cs) = marksOf H
 | [], _, _ => rfl
 | e :: r, b, cs => by
   simp only [updE]
   split
   · rfl
   · simp only [marksOf, marks_updE r b cs]
theorem mem_updE : ∀ {H : Hp} {b : Nat} {cs : List Value} {x : Ent}, x ∈ updE H b cs → x ∈ H ∨ ∃ e, findE H b = some e ∧ x = { e with cells := cs }
 | [], _, _, x, h => by cases h
 | e :: r, b, cs, x, h => by
   simp only [updE] at h
   by_cases hb : b = e.blk
   · rw [if_pos hb] at h
     rcases List.mem_cons.1 h with rfl | h
     · exact .inr ⟨e, by simp [findE, hb], rfl⟩
     · exact .inl (by simp [h])
   · rw [if_neg hb] at h
     rcases List.mem_cons.1 h with rfl | h
     · exact .inl (by simp)
     · rcases mem_updE h with h | ⟨e', h1, h2⟩
       · exact .inl (by simp [h])
       · exact .inr ⟨e', by simp [findE, hb, h1], h2⟩
theorem updE_blks : ∀ (H : Hp) (b : Nat) (cs : List Value), (H.Pairwise fun e f => (e.wr ∨ f.wr) → e.blk ≠ f.blk) → (updE H b cs).Pairwise fun e f => (e.wr ∨ f.wr) → e.blk ≠ f.blk
 | [], _, _, h => h
 | e :: r, b, cs, h => by
   obtain ⟨h1, h2⟩ := List.pairwise_cons.1 h
   simp only [updE]
   split
   · exact List.pairwise_cons.2 ⟨fun x hx => h1 x hx, h2⟩
   · refine List.pairwise_cons.2 ⟨fun x hx => ?_, updE_blks r b cs h2⟩
     rcases mem_updE hx with hx | ⟨e', he', rfl⟩
     · exact h1 x hx
     · exact h1 e' (findE_mem he').1
theorem Sat.upd (h : Sat w0 mu H w) (ht : Turn b w w') {e : Ent} (he : findE H b = some e) (hw : e.wr) {cs : List Value} (hh : ({ e with cells := cs } : Ent).holds w') : Sat w0 mu (updE H b cs) w' := by
 obtain ⟨hm, hb⟩ := findE_mem he
 have hbb : mu b ∨ w0.heap.size ≤ b := by rw [← hb]; exact h.own e hm hw
 have huniq : ∀ x ∈ updE H b cs, x = { e with cells := cs } ∨ (x ∈ H ∧ x.blk ≠ b) := by
  have key : ∀ (L : Hp), (L.Pairwise fun e f => (e.wr ∨ f.wr) → e.blk ≠ f.blk) → findE L b = some e → ∀ x ∈ updE L b cs, x = { e with cells := cs } ∨ (x ∈ L ∧ x.blk ≠ b) := by
   intro L
   induction L with
   | nil => intro _ h; simp [findE] at h
   | cons y L ih =>
     intro hp hf x hx
     obtain ⟨h1, h2⟩ := List.pairwise_cons.1 hp
     simp only [findE, updE] at hf hx
     by_cases hy : b = y.blk
     · rw [if_pos hy] at hf hx
       cases hf
       rcases List.mem_cons.1 hx with rfl | hx
       · exact .inl rfl
       · exact .inr ⟨by simp [hx], fun e => h1 x hx (.inl hw) (by rw [← hy, e])⟩
     · rw [if_neg hy] at hf hx
       rcases List.mem_cons.1 hx with rfl | hx
       · exact .inr ⟨by simp, fun e => hy e.symm⟩
       · rcases ih h2 hf x hx with h | ⟨h, h'⟩
         · exact .inl h
         · exact .inr ⟨by simp [h], h'⟩
  exact key H h.apart he
 refine ⟨ht.os.trans h.os, ht.tape.trans h.tape, ht.output.trans h.output, Nat.le_trans h.size ht.size, h.old_turn ht hbb, ?_, ?_, updE_blks H b cs h.apart⟩
 · intro x hx
   rcases huniq x hx with rfl | ⟨h1, h2⟩
   · exact hh
   · exact Ent.holds_of (h.ents x h1) (ht.same _ (Ent.lt (h.ents x h1)) h2)
 · intro x hx hxw
   rcases huniq x hx with rfl | ⟨h1, h2⟩
   · show mu e.blk ∨ _; rw [hb]; exact hbb
   · exact h.own x h1 hxw
theorem Sat.weak (h : Sat w0 mu H w) {H' : Hp} (hs : H'.Sublist H) : Sat w0 mu H' w :=
 ⟨h.os, h.tape, h.output, h.size, h.old, fun e he => h.ents e (hs.subset he), fun e he => h.own e (hs.subset he), h.apart.sublist hs⟩
def remE : Hp → Nat → Hp
 | [], _ => []
 | e :: r, b => if b = e.blk then r else e :: remE r b
theorem remE_sub : ∀ (H : Hp) (b : Nat), (remE H b).Sublist H
 | [], _ => List.Sublist.refl _
 | e :: r, b => by
   simp only [remE]
   split
   · exact List.sublist_cons_self e r
   · exact (remE_sub r b).cons_cons e
theorem remE_ne {e : Ent} (hw : e.wr) : ∀ {H : Hp}, (H.Pairwise fun e f => (e.wr ∨ f.wr) → e.blk ≠ f.blk) → findE H b = some e → ∀ x ∈ remE H b, x.blk ≠ b
 | [], _, h, _, _ => by simp [findE] at h
 | y :: L, hp, hf, x, hx => by
   obtain ⟨h1, h2⟩ := List.pairwise_cons.1 hp
   simp only [findE, remE] at hf hx
   by_cases hy : b = y.blk
   · rw [if_pos hy] at hf hx
     cases hf
     exact fun e => h1 x hx (.inl hw) (by rw [← hy, e])
   · rw [if_neg hy] at hf hx
     rcases List.mem_cons.1 hx with rfl | hx
     · exact fun e => hy e.symm
     · exact remE_ne hw h2 hf x hx
end
def oneC : Value → Bool
 | .agg _ => false
 | .tuple _ => false
 | _ => true
theorem oneC_eq {v : Value} (h : oneC v = true) : v.oneCell' = true := by cases v <;> simp [oneC] at h <;> rfl
theorem run_storeRow {P : Program} {b o : Nat} {t : TypeId} {se : Nat} {fz : Nat × Nat} : ∀ (vs : List Value) (i : Nat) (cs : Array Value) (w : World), okFz se fz cs.size → w.heap[b]? = some (.cells cs t fz) → o + i + vs.length ≤ cs.size →
  vs.all oneC = true → ∃ w', (storeCells ⟨b, o, none⟩ vs i).run P w = .ok () w' ∧ Turn b w w' ∧ w'.heap[b]? = some (.cells (setSeg cs.toList (o + i) vs).toArray t fz)
 | [], i, cs, w, _, hb, hl, _ => ⟨w, by simp [storeCells], ⟨rfl, rfl, rfl, Nat.le_refl _, fun _ _ _ => rfl⟩, by rw [hb]; simp [setSeg]⟩
 | v :: vs, i, cs, w, hz, hb, hl, hv => by
   simp only [List.all_cons, Bool.and_eq_true] at hv
   simp only [List.length_cons] at hl
   have hlt : o + i < cs.size := by omega
   have hcell : w.cell? ⟨b, o + i, none⟩ = some cs[o + i] := by simp [World.cell?, hb, hlt]
   have hfz : w.frozen? ⟨b, o + i, none⟩ = false := by
    have := hz.no hlt
    simp only [World.frozen?, hb]
    exact this
   have hb1 : (w.setCell ⟨b, o + i, none⟩ v).heap[b]? = some (.cells (cs.setIfInBounds (o + i) v) t fz) := by
    simp [World.setCell, Array.getElem?_modify, hb]
   obtain ⟨w', h1, h2, h3⟩ := run_storeRow (P := P) (o := o) vs (i + 1) (cs.setIfInBounds (o + i) v) (w.setCell ⟨b, o + i, none⟩ v) (by rw [Array.size_setIfInBounds]; exact hz) hb1 (by simp only [Array.size_setIfInBounds]; omega) hv.2
   refine ⟨w', ?_, ?_, ?_⟩
   · rw [storeCells]
     simp only [Sem.run_bind, add_mk]
     rw [run_store P w _ v .plain (oneC_eq hv.1)]
     simp only [hcell, hfz, Bool.false_eq_true, if_false, Result.andThen_ok]
     exact h1
   · have hsz : (w.setCell ⟨b, o + i, none⟩ v).heap.size = w.heap.size := by simp [World.setCell]
     refine ⟨h2.os, h2.tape, h2.output, by rw [← hsz]; exact h2.size, fun k hk hne => ?_⟩
     rw [h2.same k (by rw [hsz]; exact hk) hne]
     simp [World.setCell, Array.getElem?_modify, Ne.symm hne]
   · rw [h3]
     congr 2
     simp only [setSeg, Array.toList_setIfInBounds, List.length_cons, List.append_assoc]
     rw [show o + (i + 1) = o + i + 1 by omega]
     rw [List.take_succ_eq_append_getElem (by simpa using hlt)]
     simp only [List.getElem_set_self, List.append_assoc, List.cons_append, List.nil_append]
     rw [List.take_set_of_le (Nat.le_refl _), List.drop_set_of_lt (by omega)]
     rw [show o + i + 1 + vs.length = o + i + (vs.length + 1) by omega]
def storeV (P : Program) (H : Hp) (t : TypeId) (p v : Value) : Option Hp :=
 match p with
 | .pointer (some ⟨b, o, none⟩) => match findE H b, tyI P t with
   | some e, some (s, _) => match e.kind with
     | .cel _ => if v.cells.toList.length = s ∧ o + s ≤ e.cells.length ∧ v.cells.toList.all oneC = true then some (updE H b (setSeg e.cells o v.cells.toList)) else none
     | .vec _ _ _ => if v.cells.toList.length = s ∧ o + s ≤ e.cells.length ∧ v.cells.toList.all oneC = true then some (updE H b (setSeg e.cells o v.cells.toList)) else none
     | _ => none
   | _, _ => none
 | _ => none
theorem setSeg_length {l vs : List Value} {o : Nat} (h : o + vs.length ≤ l.length) : (setSeg l o vs).length = l.length := by
 simp [setSeg]; omega
theorem setSeg_get {l vs : List Value} {o : Nat} (h : o + vs.length ≤ l.length) (k : Nat) : (setSeg l o vs)[k]? = if o ≤ k ∧ k < o + vs.length then vs[k - o]? else l[k]? := by
 unfold setSeg
 by_cases h1 : k < o
 · rw [if_neg (by omega), List.append_assoc, List.getElem?_append_left (by simp; omega), List.getElem?_take]
   simp [h1]
 · by_cases h2 : k < o + vs.length
   · rw [if_pos ⟨by omega, h2⟩, List.getElem?_append_left (by simp; omega), List.getElem?_append_right (by simp; omega)]
     congr 1; simp; omega
   · rw [if_neg (by omega), List.getElem?_append_right (by simp; omega), List.getElem?_drop]
     congr 1; simp; omega
theorem Sat.storeV {P : Program} {w0 w : World} {mu : Nat → Prop} {H H' : Hp} (h : Sat w0 mu H w) {t : TypeId} {p v : Value} (hs : storeV P H t p v = some H') :
  ∃ w', (Instr.storeAt t p v).run P w = .ok () w' ∧ Sat w0 mu H' w' ∧ marksOf H' = marksOf H := by
 unfold Ev.storeV at hs
 split at hs
 case h_2 => cases hs
 rename_i b o
 split at hs
 case h_2 => cases hs
 rename_i e s ag he hty
 obtain ⟨_, hsz⟩ := isAgg_of (w := w) hty
 obtain ⟨hm, hb⟩ := findE_mem he
 have hh := h.ents e hm
 have run0 : ∀ w', v.cells.toList.length = s → (storeCells ⟨b, o, none⟩ v.cells.toList 0).run P w = .ok () w' → (Instr.storeAt t (.pointer (some ⟨b, o, none⟩)) v).run P w = .ok () w' := fun w' hl hr => by
  have : v.cells.size = s := by simpa using hl
  simp [Instr.storeAt, Instr.sureAddr, storeVar, hsz, this, hr]
 split at hs
 · rename_i te hk
   split at hs
   case isFalse => cases hs
   rename_i hc
   cases hs
   unfold Ent.holds at hh
   rw [hk] at hh; dsimp only at hh
   rw [hb] at hh
   obtain ⟨w', h1, h2, h3⟩ := run_storeRow (P := P) (o := o) (se := 1) v.cells.toList 0 _ w (.inl rfl) hh.2 (by rw [List.size_toArray, Nat.add_zero, hc.1]; exact hc.2.1) hc.2.2
   refine ⟨w', run0 w' hc.1 h1, h.upd h2 he (by unfold Ent.wr; rw [hk]; trivial) ?_, marks_updE _ _ _⟩
   unfold Ent.holds
   dsimp only
   rw [hk]
   exact ⟨hh.1, by rw [hb, h3]; simp⟩
 · rename_i te se cap hk
   split at hs
   case isFalse => cases hs
   rename_i hc
   cases hs
   unfold Ent.holds at hh
   rw [hk] at hh; dsimp only at hh
   rw [hb] at hh
   obtain ⟨h0, cs, fz, hcs, hfz, hsize, hle, hpre⟩ := hh
   have hin : o + v.cells.toList.length ≤ cs.toList.length := by rw [hc.1, Array.length_toList]; omega
   have hin2 : o + v.cells.toList.length ≤ e.cells.length := by rw [hc.1]; exact hc.2.1
   obtain ⟨w', h1, h2, h3⟩ := run_storeRow (P := P) (o := o) v.cells.toList 0 cs w hfz hcs (by simpa using hin) hc.2.2
   refine ⟨w', run0 w' hc.1 h1, h.upd h2 he (by unfold Ent.wr; rw [hk]; trivial) ?_, marks_updE _ _ _⟩
   unfold Ent.holds
   dsimp only
   rw [hk]
   refine ⟨h0, _, fz, by rw [hb, h3], by rw [List.size_toArray, Nat.add_zero, setSeg_length hin]; simpa using hfz, by rw [List.size_toArray, Nat.add_zero, setSeg_length hin]; simpa using hsize, by rw [setSeg_length hin2]; exact hle, fun k u hku => ?_⟩
   rw [List.getElem?_toArray, Nat.add_zero, setSeg_get hin]
   rw [setSeg_get hin2] at hku
   split
   · rename_i hr; rw [if_pos hr] at hku; exact hku
   · rename_i hr; rw [if_neg hr] at hku; simpa using hpre k u hku
 · cases hs
end Go.Ev
namespace Go.Ev
open Go.RowKit
def slI (P : Program) (t : TypeId) : Option (TypeId × Nat × Nat) :=
 match P.underlying t with
 | some (.slice e) => match P.info? e with
   | some i => match i.zero with
     | some z => if z.cells.size = i.size ∧ 0 < i.size ∧ 0 < i.bytes then some (e, i.size, i.bytes) else none
     | none => none
   | none => none
 | _ => none
theorem slI_eq {P : Program} {t e : TypeId} {s n : Nat} (h : slI P t = some (e, s, n)) :
  P.underlying t = some (.slice e) ∧ ∃ i z, P.info? e = some i ∧ i.zero = some z ∧ z.cells.size = s ∧ i.size = s ∧ i.bytes = n ∧ 0 < s ∧ 0 < n := by
 unfold slI at h
 split at h
 case h_2 => cases h
 rename_i e' hu
 split at h
 case h_2 => cases h
 rename_i i hi
 split at h
 case h_2 => cases h
 rename_i z hz
 split at h
 case isFalse => cases h
 rename_i hc
 cases h
 exact ⟨hu, i, z, hi, hz, hc.1, rfl, rfl, hc.2.1, hc.2.2⟩
def byteV (l : List UInt8) : List Value := l.map fun b => .int .u8 b.toNat
def srcL (P : Program) (H : Hp) (xt : TypeId) (x : Value) (s : Nat) : Option (List Value × Nat) :=
 match x with
 | .slice none m _ => match elemI P xt with
   | some (none, _, _) => if m = 0 then some ([], 0) else none
   | _ => none
 | .slice (some ⟨b, o, none⟩) m _ => match elemI P xt with
   | some (none, _, _) => match cellsAt H b o (m * s) with
     | some l => some (l, m)
     | none => if m = 0 then some ([], 0) else none
   | _ => none
 | .slice (some ⟨_, _, some _⟩) m _ => match elemI P xt with
   | some (none, _, _) => if m = 0 then some ([], 0) else none
   | _ => none
 | .string b => if isStr P xt ∧ s = 1 then some (byteV b.data.toList, b.size) else none
 | _ => none
theorem run_srcL {P : Program} {w0 w : World} {mu : Nat → Prop} {H : Hp} (h : Sat w0 mu H w) {xt : TypeId} {x : Value} {s m : Nat} {l : List Value} (hx : srcL P H xt x s = some (l, m)) :
  (∃ d, P.underlying xt = some d ∧ ∀ k, d ≠ .int k) ∧ (Builtin.lenOf x).run P w = .ok m w ∧ (Builtin.firstCells s m x).run P w = .ok l.toArray w ∧ l.length = m * s := by
 unfold srcL at hx
 split at hx
 · split at hx
   · rename_i he
     split at hx
     · rename_i hm
       cases hx
       obtain ⟨e, hu, _⟩ := elemI_sl he
       subst hm
       exact ⟨⟨_, hu, by simp⟩, by simp [Builtin.lenOf], by simp [Builtin.firstCells], by simp⟩
     · cases hx
   · cases hx
 · rename_i b o n c
   split at hx
   · rename_i he
     obtain ⟨e, hu, _⟩ := elemI_sl he
     split at hx
     · rename_i l' hl
       cases hx
       obtain ⟨h1, h2⟩ := h.cellsAt hl
       refine ⟨⟨_, hu, by simp⟩, by simp [Builtin.lenOf], ?_, h1⟩
       simp only [Builtin.firstCells, loadCells]
       rw [run_loadCellsFrom _ 0 l #[] h1 (by simpa using h2)]
       simp
     · split at hx
       · rename_i hm
         cases hx
         subst hm
         exact ⟨⟨_, hu, by simp⟩, by simp [Builtin.lenOf], by simp [Builtin.firstCells, loadCells, loadCellsFrom], by simp⟩
       · cases hx
   · cases hx
 · split at hx
   · rename_i he
     obtain ⟨e, hu, _⟩ := elemI_sl he
     split at hx
     · rename_i hm
       cases hx
       subst hm
       exact ⟨⟨_, hu, by simp⟩, by simp [Builtin.lenOf], by simp [Builtin.firstCells, loadCells, loadCellsFrom], by simp⟩
     · cases hx
   · cases hx
 · rename_i b
   split at hx
   · rename_i hs
     cases hx
     refine ⟨⟨_, isStr_eq hs.1, by simp⟩, by simp [Builtin.lenOf], ?_, by rw [hs.2, Nat.mul_one]; simp [byteV]⟩
     simp only [Builtin.firstCells, Sem.run_pure]
     congr 1
     have : (b.extract 0 b.size).data = b.data := by simp
     rw [this, ← Array.toList_inj]
     simp [byteV]
   · cases hx
 · cases hx
def two47 : Nat := 140737488355328
def evAppend (P : Program) (H : Hp) (st xt : TypeId) (s x : Value) (K : Value → Hp → Prop) : Prop :=
 match slI P st with
 | none => False
 | some (e, sz, by_) => match srcL P H xt x sz with
   | none => False
   | some (ys, m) => match s with
     | .slice none n c => (n = 0 ∧ c = 0) ∧ (m = 0 → K (.slice none 0 0) H) ∧ (0 < m → m * by_ ≤ two47 ∧ ∀ b c', fresh b H → m ≤ c' → K (.slice (some ⟨b, 0, none⟩) m c') (⟨b, 0, .vec e sz c', ys⟩ :: H))
     | .slice (some ⟨b, o, none⟩) n c => match findE H b with
       | some ⟨_, _, .vec e' sz' cap, xs⟩ => if xs.length = n * sz then (o = 0 ∧ e' = e ∧ sz' = sz ∧ cap = c ∧ xs.length = n * sz) ∧ (n + m) * by_ ≤ two47 ∧ ys.all oneC = true ∧
         ∀ b' c', fresh b' (remE H b) → n + m ≤ c' → K (.slice (some ⟨b', 0, none⟩) (n + m) c') (⟨b', 0, .vec e sz c', xs ++ ys⟩ :: remE H b)
         else (o = 0 ∧ e' = e ∧ sz' = sz ∧ cap = c ∧ (n + m) * sz ≤ xs.length) ∧ ys.all oneC = true ∧ K (.slice (some ⟨b, 0, none⟩) (n + m) c) (updE H b (setSeg xs (n * sz) ys))
       | some ⟨_, _, .ro, _⟩ => match cellsAt H b o (n * sz) with
         | some xs => (n = c ∧ 0 < m ∧ (n + m) * by_ ≤ two47) ∧ ∀ b' c', fresh b' H → n + m ≤ c' → K (.slice (some ⟨b', 0, none⟩) (n + m) c') (⟨b', 0, .vec e sz c', xs ++ ys⟩ :: H)
         | none => False
       | _ => False
     | _ => False
theorem marks_remE {b : Nat} : ∀ {H : Hp} {e : Ent}, findE H b = some e → (∀ o, e.kind ≠ .obj o) → marksOf (remE H b) = marksOf H
 | [], _, h, _ => by simp [findE] at h
 | x :: r, e, h, hk => by
   simp only [findE, remE] at h ⊢
   by_cases hb : b = x.blk
   · rw [if_pos hb] at h ⊢
     cases h
     simp only [marksOf]
     split
     · rename_i hk'; exact absurd hk' (hk _)
     · rfl
   · rw [if_neg hb] at h ⊢
     simp only [marksOf, marks_remE h hk]
theorem run_zeroCells_sz (zs : Array Value) (n : Nat) : (Builtin.zeroCells zs n).size = n * zs.size := by simp [Builtin.zeroCells]
theorem Sat.drew' {w0 w : World} {mu : Nat → Prop} {H : Hp} (h : Sat w0 mu H w) : Sat w0 mu H w.drew := h.drew
theorem run_appendRoom {P : Program} {w : World} {st xt ty e : TypeId} {i : TypeInfo} {d : TypeDesc} {b n c m : Nat} {x : Value} {cs : Array Value} {se : Nat} {fz : Nat × Nat} {ys : List Value} (tys : Array TypeId) (h0 : tys[0]? = some st) (h1 : tys[1]? = some xt)
  (hu : P.underlying st = some (.slice e)) (hi : P.info? e = some i) (hxu : P.underlying xt = some d) (hxd : ∀ k, d ≠ .int k) (hlen : (Builtin.lenOf x).run P w = .ok m w)
  (hcells : (Builtin.firstCells i.size m x).run P w = .ok ys.toArray w) (hz0 : okFz se fz cs.size) (hb : w.heap[b]? = some (.cells cs e fz)) (hroom : n + m ≤ c) (hfit : n * i.size + ys.length ≤ cs.size) (h1c : ys.all oneC = true) :
  ∃ w', (Builtin.append_ tys ty #[.slice (some ⟨b, 0, none⟩) n c, x]).run P w = .ok (.slice (some ⟨b, 0, none⟩) (n + m) c) w' ∧ Turn b w w' ∧ w'.heap[b]? = some (.cells (setSeg cs.toList (n * i.size) ys).toArray e fz) := by
 obtain ⟨w', s1, s2, s3⟩ := run_storeRow (P := P) (o := n * i.size) ys 0 cs w hz0 hb (by simpa using hfit) h1c
 refine ⟨w', ?_, s2, by simpa using s3⟩
 have hx0 : (match d with | .int _ => true | _ => false) = false := by
  cases d <;> first | rfl | exact absurd rfl (hxd _)
 have hadd := add_mk b 0 (n * i.size)
 rw [Nat.zero_add] at hadd
 simp [Builtin.append_, h0, h1, run_underlying hu, run_underlying hxu, sizeOf, typeInfo, hi, hlen, hcells, hroom, hadd, s1]
theorem run_appendGrow {P : Program} {w : World} {st xt ty e : TypeId} {i : TypeInfo} {z : Value} {d : TypeDesc} {base : Option Addr} {n c m : Nat} {x : Value} {xs ys : List Value} (tys : Array TypeId) (h0 : tys[0]? = some st) (h1 : tys[1]? = some xt)
  (hu : P.underlying st = some (.slice e)) (hi : P.info? e = some i) (hz : i.zero = some z) (hxu : P.underlying xt = some d) (hxd : ∀ k, d ≠ .int k) (hlen : (Builtin.lenOf x).run P w = .ok m w)
  (hcells : (Builtin.firstCells i.size m x).run P w.drew = .ok ys.toArray w.drew) (hxs : (Builtin.firstCells i.size n (.slice base n c)).run P w.drew = .ok xs.toArray w.drew)
  (hg : c < n + m) (hb0 : 0 < i.bytes) (hfit : (n + m) * i.bytes ≤ two47) :
  ∃ c', n + m ≤ c' ∧ (Builtin.append_ tys ty #[.slice base n c, x]).run P w = .ok (.slice (some ⟨w.heap.size, 0, none⟩) (n + m) c') (w.drew.alloc (.cells (xs.toArray ++ ys.toArray ++ Builtin.zeroCells z.cells (c' - (n + m))) e)) := by
 refine ⟨grownCap w (n + m) c e, grownCap_ge w _ _ _, ?_⟩
 have hx0 : (match d with | .int _ => true | _ => false) = false := by
  cases d <;> first | rfl | exact absurd rfl (hxd _)
 have hn : ¬ (n + m ≤ c) := by omega
 have h48 := growslice_fits hg hfit
 have h48' : ¬ (281474976710656 < Builtin.nextslicecap (n + m) c * i.bytes) := by omega
 have h63' : ¬ (i.bytes = 0) := by omega
 simp [Builtin.append_, h0, h1, run_underlying hu, run_underlying hxu, sizeOf, typeInfo, zeroValue, hi, hz, hlen, hn, h48', h63', Question.forced, hcells, hxs, newRow, grownCap]
 rw [← List.append_toArray, Array.append_assoc]
theorem Sat.append {P : Program} {w0 w : World} {mu : Nat → Prop} {H : Hp} (h : Sat w0 mu H w) {st xt ty : TypeId} {s x : Value} {K : Value → Hp → Prop} (hk : evAppend P H st xt s x K) (tys : Array TypeId) (h0 : tys[0]? = some st) (h1 : tys[1]? = some xt) :
  ∃ v H' w', (Builtin.append_ tys ty #[s, x]).run P w = .ok v w' ∧ K v H' ∧ Sat w0 mu H' w' ∧ marksOf H' = marksOf H := by
 unfold evAppend at hk
 split at hk
 · exact hk.elim
 rename_i e sz by_ hsl
 obtain ⟨hu, i, z, hi, hz, hzs, hsi, hby, hs0, hb0⟩ := slI_eq hsl
 subst hsi; subst hby
 split at hk
 · exact hk.elim
 rename_i ys m hsrc
 obtain ⟨⟨d, hxu, hxd⟩, hlen, hcells, hyl⟩ := run_srcL h hsrc
 obtain ⟨_, _, hcells', _⟩ := run_srcL h.drew' hsrc
 split at hk
 · rename_i n c
   obtain ⟨⟨rfl, rfl⟩, hm0, hm1⟩ := hk
   rcases Nat.eq_zero_or_pos m with hm | hm
   · subst hm
     have hx0 : (match d with | .int _ => true | _ => false) = false := by
      cases d <;> first | rfl | exact absurd rfl (hxd _)
     refine ⟨_, H, w, ?_, hm0 rfl, h, rfl⟩
     simp [Builtin.append_, h0, h1, run_underlying hu, run_underlying hxu, sizeOf, typeInfo, hi, hlen, hcells]
   · obtain ⟨hbound, hK⟩ := hm1 hm
     obtain ⟨c', hc', hrun⟩ := run_appendGrow (P := P) (w := w) (base := none) (n := 0) (c := 0) (xs := []) (ty := ty) tys h0 h1 hu hi hz hxu hxd hlen hcells' (by simp [Builtin.firstCells]) (by omega) hb0 (by simpa using hbound)
     rw [Nat.zero_add] at hrun hc'
     refine ⟨_, _, _, hrun, hK w.heap.size c' h.fresh_size hc', ?_, by simp [marksOf]⟩
     refine h.drew'.alloc rfl ?_
     unfold Ent.holds
     refine ⟨rfl, _, (0, 0), World.alloc_heap_new _ _, .inl rfl, ?_, ?_, ?_⟩
     · rw [Array.size_append, run_zeroCells_sz, hzs]
       simp only [List.append_toArray, List.nil_append, List.size_toArray, hyl]
       rw [← Nat.add_mul]; congr 1; omega
     · rw [hyl]; exact Nat.mul_le_mul_right _ hc'
     · intro k v hk
       rw [Array.getElem?_append_left (by simpa using (List.getElem?_eq_some_iff.1 hk).1)]
       simpa using hk
 · rename_i b o n c
   split at hk
   case h_3 => exact hk.elim
   case h_2 =>
    rename_i blk off rs he
    split at hk
    case h_2 => exact hk.elim
    rename_i xs hcell
    obtain ⟨⟨rfl, hm0, hbound⟩, hK⟩ := hk
    obtain ⟨c1, c2⟩ := h.drew'.cellsAt hcell
    have hxs : (Builtin.firstCells i.size n (.slice (some ⟨b, o, none⟩) n n)).run P w.drew = .ok xs.toArray w.drew := by
     simp only [Builtin.firstCells, loadCells]
     rw [run_loadCellsFrom _ 0 xs #[] c1 (by simpa using c2)]
     simp
    obtain ⟨c', hc', hrun⟩ := run_appendGrow (P := P) (w := w) (ty := ty) tys h0 h1 hu hi hz hxu hxd hlen hcells' hxs (by omega) hb0 hbound
    refine ⟨_, _, _, hrun, hK w.heap.size c' h.fresh_size hc', ?_, by simp [marksOf]⟩
    refine h.drew'.alloc rfl ?_
    unfold Ent.holds
    refine ⟨rfl, _, (0, 0), World.alloc_heap_new _ _, .inl rfl, ?_, ?_, ?_⟩
    · rw [Array.size_append, run_zeroCells_sz, hzs]
      simp only [List.append_toArray, List.size_toArray, List.length_append, hyl, c1]
      rw [← Nat.add_mul, ← Nat.add_mul]; congr 1; omega
    · rw [List.length_append, hyl, c1, ← Nat.add_mul]; exact Nat.mul_le_mul_right _ hc'
    · intro k v hk
      rw [Array.getElem?_append_left (by simpa using (List.getElem?_eq_some_iff.1 hk).1)]
      simpa using hk
   rename_i blk off e' sz' cap xs he
   split at hk
   case isFalse =>
    obtain ⟨⟨rfl, rfl, rfl, rfl, hxl⟩, h1c, hK⟩ := hk
    obtain ⟨hm, hb⟩ := findE_mem he
    dsimp only at hb
    subst hb
    have hh := h.ents _ hm
    unfold Ent.holds at hh
    dsimp only at hh
    obtain ⟨rfl, cs, fz, hcs, hfz, hsize, hle, hpre⟩ := hh
    have hroom : n + m ≤ cap := Nat.le_of_mul_le_mul_right (Nat.le_trans hxl hle) hs0
    have hfit : n * i.size + ys.length ≤ cs.size := by
     rw [hyl, hsize, ← Nat.add_mul]; exact Nat.mul_le_mul_right _ hroom
    have hfx : n * i.size + ys.length ≤ xs.length := by rw [hyl, ← Nat.add_mul]; exact hxl
    obtain ⟨w', hrun, ht, hw'⟩ := run_appendRoom (P := P) (ty := ty) tys h0 h1 hu hi hxu hxd hlen hcells hfz hcs hroom hfit h1c
    refine ⟨_, _, w', hrun, hK, h.upd ht he trivial ?_, marks_updE _ _ _⟩
    have hfl : n * i.size + ys.length ≤ cs.toList.length := by simpa using hfit
    unfold Ent.holds
    refine ⟨rfl, _, fz, hw', by rw [List.size_toArray, setSeg_length hfl]; simpa using hfz, by rw [List.size_toArray, setSeg_length hfl]; simpa using hsize, by rw [setSeg_length hfx]; exact hle, fun k v hk => ?_⟩
    dsimp only at hk
    rw [List.getElem?_toArray, setSeg_get hfl]
    rw [setSeg_get hfx] at hk
    split
    · rename_i hr; rw [if_pos hr] at hk; exact hk
    · rename_i hr; rw [if_neg hr] at hk; simpa using hpre k v hk
   obtain ⟨⟨rfl, rfl, rfl, rfl, hxl⟩, hbound, h1c, hK⟩ := hk
   obtain ⟨hm, hb⟩ := findE_mem he
   dsimp only at hb
   subst hb
   have hh := h.ents _ hm
   unfold Ent.holds at hh
   dsimp only at hh
   obtain ⟨rfl, cs, fz, hcs, hfz, hsize, hle, hpre⟩ := hh
   have hwr : Ent.wr ⟨blk, 0, .vec e' i.size cap, xs⟩ := trivial
   have hown : mu blk ∨ w0.heap.size ≤ blk := h.own _ hm hwr
   have hap : (remE H blk).Pairwise fun e f => (e.wr ∨ f.wr) → e.blk ≠ f.blk := h.apart.sublist (remE_sub H blk)
   have hne : ∀ x ∈ remE H blk, x.blk ≠ blk := remE_ne hwr h.apart he
   have hmk : marksOf (remE H blk) = marksOf H := marks_remE he (by intro o; simp)
   by_cases hroom : n + m ≤ cap
   · have hfit : n * i.size + ys.length ≤ cs.size := by
      rw [hyl, hsize, ← Nat.add_mul]; exact Nat.mul_le_mul_right _ hroom
     obtain ⟨w', hrun, ht, hw'⟩ := run_appendRoom (P := P) (ty := ty) tys h0 h1 hu hi hxu hxd hlen hcells hfz hcs hroom hfit h1c
     refine ⟨_, _, w', hrun, hK blk cap (fresh_of hne) hroom, ?_, by simpa [marksOf] using hmk⟩
     refine h.front ht hown rfl ?_ (fun x hx => ⟨(remE_sub H blk).subset hx, hne x hx⟩) hap
     have hfl : n * i.size + ys.length ≤ cs.toList.length := by simpa using hfit
     unfold Ent.holds
     refine ⟨rfl, _, fz, hw', by rw [List.size_toArray, setSeg_length hfl]; simpa using hfz, by rw [List.size_toArray, setSeg_length hfl]; simpa using hsize, ?_, fun k v hk => ?_⟩
     · rw [List.length_append, hxl, hyl, ← Nat.add_mul]; exact Nat.mul_le_mul_right _ hroom
     · dsimp only at hk
       rw [List.getElem?_toArray, setSeg_get hfl]
       have hkl := (List.getElem?_eq_some_iff.1 hk).1
       rw [List.length_append, hxl] at hkl
       by_cases hlt : k < n * i.size
       · rw [if_neg (by omega)]
         rw [List.getElem?_append_left (by rw [hxl]; exact hlt)] at hk
         simpa using hpre k v hk
       · rw [if_pos ⟨by omega, by omega⟩]
         rw [List.getElem?_append_right (by rw [hxl]; omega), hxl] at hk
         exact hk
   · have hcell : Ev.cellsAt H blk 0 (n * i.size) = some xs := by
      simp only [Ev.cellsAt, he, Nat.le_refl, if_true, Nat.sub_self, subL]
      rw [if_pos (by omega), ← hxl]
      simp
     have hxs : (Builtin.firstCells i.size n (.slice (some ⟨blk, 0, none⟩) n cap)).run P w.drew = .ok xs.toArray w.drew := by
      obtain ⟨c1, c2⟩ := h.drew'.cellsAt hcell
      simp only [Builtin.firstCells, loadCells]
      rw [run_loadCellsFrom _ 0 xs #[] c1 (by simpa using c2)]
      simp
     obtain ⟨c', hc', hrun⟩ := run_appendGrow (P := P) (w := w) (ty := ty) tys h0 h1 hu hi hz hxu hxd hlen hcells' hxs (by omega) hb0 hbound
     refine ⟨_, _, _, hrun, hK w.heap.size c' ?_ hc', ?_, by simpa [marksOf] using hmk⟩
     · exact fresh_of fun x hx => by have := Ent.lt (h.ents x ((remE_sub H blk).subset hx)); omega
     · refine (h.drew'.weak (remE_sub H blk)).alloc rfl ?_
       unfold Ent.holds
       refine ⟨rfl, _, (0, 0), World.alloc_heap_new _ _, .inl rfl, ?_, ?_, ?_⟩
       · rw [Array.size_append, run_zeroCells_sz, hzs]
         simp only [List.append_toArray, List.size_toArray, List.length_append, hyl, hxl]
         rw [← Nat.add_mul, ← Nat.add_mul]; congr 1; omega
       · rw [List.length_append, hyl, hxl, ← Nat.add_mul]; exact Nat.mul_le_mul_right _ hc'
       · intro k v hk
         rw [Array.getElem?_append_left (by simpa using (List.getElem?_eq_some_iff.1 hk).1)]
         simpa using hk
 · exact hk.elim
def repL : Nat → List Value → List Value
 | 0, _ => []
 | n + 1, z => z ++ repL n z
theorem repL_len (n : Nat) (z : List Value) : (repL n z).length = n * z.length := by
 induction n with
 | zero => simp [repL]
 | succ n ih => rw [repL, List.length_append, ih, Nat.succ_mul, Nat.add_comm]
theorem repL_get (z : List Value) : ∀ (n i : Nat), (repL n z)[i]? = if i < n * z.length then z[i % z.length]? else none
 | 0, i => by simp [repL]
 | n + 1, i => by
   rw [repL]
   by_cases h : i < z.length
   · rw [List.getElem?_append_left h, if_pos (by rw [Nat.succ_mul]; omega), Nat.mod_eq_of_lt h]
   · rw [List.getElem?_append_right (by omega), repL_get z n, Nat.succ_mul]
     by_cases h2 : i - z.length < n * z.length
     · rw [if_pos h2, if_pos (by omega), ← Nat.mod_eq_sub_mod (by omega)]
     · rw [if_neg h2, if_neg (by omega)]
theorem zeroCells_rep (z : Array Value) (n : Nat) : (Builtin.zeroCells z n).toList = repL n z.toList := by
 apply List.ext_getElem?
 intro i
 rw [repL_get]
 unfold Builtin.zeroCells
 simp only [Array.toList_map, Array.toList_range, List.getElem?_map, Array.length_toList]
 by_cases h : i < n * z.size
 · rw [if_pos h, List.getElem?_range h]
   have hz : 0 < z.size := by
    rcases Nat.eq_zero_or_pos z.size with h0 | h0
    · rw [h0, Nat.mul_zero] at h; omega
    · exact h0
   have hm := Nat.mod_lt i hz
   simp [hm]
 · rw [if_neg h, List.getElem?_eq_none (by simpa using h)]; rfl
def evClear (P : Program) (H : Hp) (st : TypeId) (s : Value) (K : Value → Hp → Prop) : Prop :=
 match slI P st, s with
 | some (_, _, _), .slice none _ _ => K (.tuple #[]) H
 | some (e, sz, _), .slice (some ⟨b, o, none⟩) n _ => match zeroL P e, findE H b with
   | some z, some ⟨_, _, .vec _ _ _, xs⟩ => if n = 0 then K (.tuple #[]) H else (o + n * sz ≤ xs.length ∧ z.all oneC = true) ∧ K (.tuple #[]) (updE H b (setSeg xs o (repL n z)))
   | _, _ => False
 | _, _ => False
theorem repL_one {z : List Value} (h : z.all oneC = true) : ∀ n, (repL n z).all oneC = true
 | 0 => rfl
 | n + 1 => by rw [repL, List.all_append, h, repL_one h n]; rfl
theorem Sat.clear {P : Program} {w0 w : World} {mu : Nat → Prop} {H : Hp} (h : Sat w0 mu H w) {st ty : TypeId} {s : Value} {K : Value → Hp → Prop} (hk : evClear P H st s K) (tys : Array TypeId) (h0 : tys[0]? = some st) :
  ∃ v H' w', (Builtin.clear_ tys ty #[s]).run P w = .ok v w' ∧ K v H' ∧ Sat w0 mu H' w' ∧ marksOf H' = marksOf H := by
 unfold evClear at hk
 split at hk
 · rename_i e sz by_ n c hsl
   obtain ⟨hu, -⟩ := slI_eq hsl
   refine ⟨_, H, w, ?_, hk, h, rfl⟩
   simp [Builtin.clear_, h0, run_underlying hu]
 · rename_i e sz by_ b o n c hsl
   obtain ⟨hu, i, z, hi, hz, hzs, hsi, hby, hs0, hb0⟩ := slI_eq hsl
   split at hk
   case h_2 => exact hk.elim
   rename_i zl blk off te ts cap xs hzl he
   have hzl' : zl = z.cells.toList := by
    unfold zeroL at hzl
    rw [hi] at hzl
    simpa [hz] using hzl.symm
   split at hk
   · rename_i hn
     subst hn
     refine ⟨_, H, w, ?_, hk, h, rfl⟩
     simp [Builtin.clear_, h0, run_underlying hu]
   · rename_i hn
     obtain ⟨⟨hfx, hz1⟩, hK⟩ := hk
     obtain ⟨hm, hb⟩ := findE_mem he
     dsimp only at hb
     subst hb
     have hh := h.ents _ hm
     unfold Ent.holds at hh
     dsimp only at hh
     obtain ⟨rfl, cs, fz, hcs, hfz, hsize, hle, hpre⟩ := hh
     have hrl : (repL n zl).length = n * sz := by rw [repL_len, hzl', Array.length_toList, hzs]
     have hfx' : o + (repL n zl).length ≤ xs.length := by rw [hrl]; exact hfx
     have hcl : cs.toList.length = cs.size := Array.length_toList
     have hfl : o + (repL n zl).length ≤ cs.toList.length := by rw [hcl, hsize]; omega
     obtain ⟨w', h1, h2, h3⟩ := run_storeRow (P := P) (o := o) (repL n zl) 0 cs w hfz hcs (by simpa using hfl) (repL_one hz1 n)
     refine ⟨.tuple #[], _, w', ?_, hK, h.upd h2 he trivial ?_, marks_updE _ _ _⟩
     · have h1' : (storeCells ⟨blk, o, none⟩ (Builtin.zeroCells z.cells n).toList 0).run P w = .ok () w' := by rw [zeroCells_rep, ← hzl']; exact h1
       simp [Builtin.clear_, h0, run_underlying hu, zeroValue, typeInfo, hi, hz, hn, h1']
     · unfold Ent.holds
       refine ⟨rfl, _, fz, h3, by rw [List.size_toArray, Nat.add_zero, setSeg_length hfl]; simpa using hfz, by rw [List.size_toArray, Nat.add_zero, setSeg_length hfl]; simpa using hsize, by rw [setSeg_length hfx']; exact hle, fun k v hk => ?_⟩
       dsimp only at hk
       rw [List.getElem?_toArray, Nat.add_zero, setSeg_get hfl]
       rw [setSeg_get hfx'] at hk
       split
       · rename_i hr; rw [if_pos hr] at hk; exact hk
       · rename_i hr; rw [if_neg hr] at hk; simpa using hpre k v hk
 · exact hk.elim
end Go.Ev
namespace Go.Ev
open Go.RowKit
def Kind.solid : Kind → Bool
 | .cel _ => true
 | .vec _ _ _ => true
 | _ => false
def writeV (H : Hp) (b o : Nat) (vs : List Value) : Option Hp :=
 match findE H b with
 | some e => if e.kind.solid = true ∧ o + vs.length ≤ e.cells.length ∧ vs.all oneC = true then some (updE H b (setSeg e.cells o vs)) else none
 | none => none
theorem Sat.writeV {P : Program} {w0 w : World} {mu : Nat → Prop} {H H' : Hp} (h : Sat w0 mu H w) {b o : Nat} {vs : List Value} (hs : writeV H b o vs = some H') :
  ∃ w', (storeCells ⟨b, o, none⟩ vs 0).run P w = .ok () w' ∧ Sat w0 mu H' w' ∧ marksOf H' = marksOf H := by
 unfold Ev.writeV at hs
 split at hs
 case h_2 => cases hs
 rename_i e he
 split at hs
 case isFalse => cases hs
 rename_i hc
 cases hs
 obtain ⟨hm, hb⟩ := findE_mem he
 have hh := h.ents e hm
 unfold Ent.holds at hh
 split at hh
 · rename_i hk; rw [hk] at hc; simp [Kind.solid] at hc
 · rename_i te hk
   rw [hb] at hh
   obtain ⟨w', h1, h2, h3⟩ := run_storeRow (P := P) (o := o) (se := 1) vs 0 _ w (.inl rfl) hh.2 (by simpa using hc.2.1) hc.2.2
   refine ⟨w', h1, h.upd h2 he (by unfold Ent.wr; rw [hk]; trivial) ?_, marks_updE _ _ _⟩
   unfold Ent.holds
   dsimp only
   rw [hk]
   exact ⟨hh.1, by rw [hb, h3]; simp⟩
 · rename_i te se cap hk
   rw [hb] at hh
   obtain ⟨h0, cs, fz, hcs, hfz, hsize, hle, hpre⟩ := hh
   have hin : o + vs.length ≤ cs.toList.length := by have hcl : cs.toList.length = cs.size := by simp
                                                     omega
   obtain ⟨w', h1, h2, h3⟩ := run_storeRow (P := P) (o := o) vs 0 cs w hfz hcs (by simpa using hin) hc.2.2
   refine ⟨w', h1, h.upd h2 he (by unfold Ent.wr; rw [hk]; trivial) ?_, marks_updE _ _ _⟩
   unfold Ent.holds
   dsimp only
   rw [hk]
   refine ⟨h0, _, fz, by rw [hb, h3], by rw [List.size_toArray, Nat.add_zero, setSeg_length hin]; simpa using hfz, by rw [List.size_toArray, Nat.add_zero, setSeg_length hin]; simpa using hsize, by rw [setSeg_length hc.2.1]; exact hle, fun k u hku => ?_⟩
   rw [List.getElem?_toArray, Nat.add_zero, setSeg_get hin]
   rw [setSeg_get hc.2.1] at hku
   split
   · rename_i hr; rw [if_pos hr] at hku; exact hku
   · rename_i hr; rw [if_neg hr] at hku; simpa using hpre k u hku
 · rename_i ob hk; rw [hk] at hc; simp [Kind.solid] at hc
def lenX : Value → Option Nat
 | .slice _ n _ => some n
 | .string b => some b.size
 | _ => none
def firstX (H : Hp) (x : Value) (k s : Nat) : Option (List Value) :=
 match x with
 | .slice none _ _ => if k = 0 then some [] else none
 | .slice (some ⟨b, o, none⟩) _ _ => if k = 0 then some [] else cellsAt H b o (k * s)
 | .string b => if s = 1 then some (byteV (b.data.toList.take k)) else none
 | _ => none
def evCopy (P : Program) (H : Hp) (dt : TypeId) (d x : Value) (K : Value → Hp → Prop) : Prop :=
 match slI P dt, lenX x, d with
 | some (_, s, _), some _, .slice none n _ => n = 0 ∧ (firstX H x 0 s).isSome ∧ K (.int .i64 0) H
 | some (_, s, _), some m, .slice (some ⟨b, o, none⟩) n _ =>
   (min m n = 0 → K (.int .i64 0) H) ∧
   (0 < min m n → match firstX H x (min m n) s with
    | some l => match writeV H b o l with
      | some H' => K (.int .i64 (min m n : Nat)) H'
      | none => False
    | none => False)
 | _, _, _ => False
theorem run_firstX {P : Program} {w0 w : World} {mu : Nat → Prop} {H : Hp} (h : Sat w0 mu H w) {x : Value} {k s : Nat} {l : List Value} (hx : firstX H x k s = some l) :
  (Builtin.firstCells s k x).run P w = .ok l.toArray w := by
 unfold firstX at hx
 split at hx
 · split at hx
   · cases hx; simp [Builtin.firstCells]
   · cases hx
 · split at hx
   · rename_i h0; cases hx; subst h0; simp [Builtin.firstCells, loadCells, loadCellsFrom]
   · obtain ⟨h1, h2⟩ := h.cellsAt hx
     simp only [Builtin.firstCells, loadCells]
     rw [run_loadCellsFrom _ 0 l #[] h1 (by simpa using h2)]
     simp
 · split at hx
   · cases hx
     simp only [Builtin.firstCells, Sem.run_pure]
     congr 1
     rw [← Array.toList_inj]
     simp [byteV, List.extract_eq_take_drop]
   · cases hx
 · cases hx
theorem Sat.copy {P : Program} {w0 w : World} {mu : Nat → Prop} {H : Hp} (h : Sat w0 mu H w) {dt ty : TypeId} {d x : Value} {K : Value → Hp → Prop} (hk : evCopy P H dt d x K) (tys : Array TypeId) (h0 : tys[0]? = some dt) :
  ∃ v H' w', (Builtin.copy_ tys ty #[d, x]).run P w = .ok v w' ∧ K v H' ∧ Sat w0 mu H' w' ∧ marksOf H' = marksOf H := by
 have hlen : ∀ m, lenX x = some m → (Builtin.lenOf x).run P w = .ok m w := by
  intro m hm
  unfold lenX at hm
  split at hm
  · cases hm; simp [Builtin.lenOf]
  · cases hm; simp [Builtin.lenOf]
  · cases hm
 unfold evCopy at hk
 split at hk
 · rename_i e s n m n' c hsl hlx
   obtain ⟨hu, i, z, hi, hz, hzs, hsi, hby, hs0, hb0⟩ := slI_eq hsl
   subst hsi
   obtain ⟨rfl, hx, hK⟩ := hk
   obtain ⟨l, hl⟩ := Option.isSome_iff_exists.1 hx
   refine ⟨_, H, w, ?_, hK, h, rfl⟩
   simp [Builtin.copy_, h0, run_underlying hu, hlen _ hlx, sizeOf, typeInfo, hi, run_firstX (P := P) h hl, goInt]
 · rename_i e s n m b o n' c hsl hlx
   obtain ⟨hu, i, z, hi, hz, hzs, hsi, hby, hs0, hb0⟩ := slI_eq hsl
   subst hsi
   rcases Nat.eq_zero_or_pos (min m n') with h00 | hpos
   · have hK := hk.1 h00
     refine ⟨_, H, w, ?_, hK, h, rfl⟩
     have hf : (Builtin.firstCells i.size 0 x).run P w = .ok #[] w := by
      unfold lenX at hlx
      split at hlx
      · rename_i a _ _
        cases a with
        | none => simp [Builtin.firstCells]
        | some a => simp [Builtin.firstCells, loadCells, loadCellsFrom]
      · simp [Builtin.firstCells]
      · cases hlx
     have hmin : Nat.min m n' = 0 := h00
     simp [Builtin.copy_, h0, run_underlying hu, hlen _ hlx, sizeOf, typeInfo, hi, hmin, hf, goInt, storeCells]
   · have hk := hk.2 hpos
     split at hk
     case h_2 => exact hk.elim
     rename_i l hl
     split at hk
     case h_2 => exact hk.elim
     rename_i H' hw
     obtain ⟨w', h1, h2, h3⟩ := h.writeV (P := P) hw
     refine ⟨_, H', w', ?_, hk, h2, h3⟩
     have hf := run_firstX (P := P) h hl
     simp [Builtin.copy_, h0, run_underlying hu, hlen _ hlx, sizeOf, typeInfo, hi, goInt]
     have : Nat.min m n' = min m n' := rfl
     rw [this, hf]
     simp [h1]
 · exact hk.elim
theorem madeCells_get (z : List Value) (n k : Nat) (hk : k < n) (hz : 0 < z.length) : (madeCells z.toArray n)[k]? = z[k % z.length]? := by
 have : k % z.length < z.length := Nat.mod_lt _ hz
 simp [madeCells, hk, this]
theorem flatten_rep_get (z : List Value) : ∀ (l k : Nat), k < l * z.length → ((List.replicate l z).flatten)[k]? = z[k % z.length]?
 | 0, k, h => by simp at h
 | l + 1, k, h => by
   rw [List.replicate_succ, List.flatten_cons]
   by_cases hk : k < z.length
   · rw [List.getElem?_append_left hk, Nat.mod_eq_of_lt hk]
   · rw [List.getElem?_append_right (by omega), flatten_rep_get z l (k - z.length) (by rw [Nat.add_mul] at h; omega)]
     congr 1
     exact (Nat.mod_eq_sub_mod (by omega)).symm
theorem madeCells_flat (z : List Value) (l : Nat) (hz : 0 < z.length) : (madeCells z.toArray (l * z.length)).toList = (List.replicate l z).flatten := by
 apply List.ext_getElem?
 intro k
 by_cases hk : k < l * z.length
 · rw [flatten_rep_get z l k hk, Array.getElem?_toList, madeCells_get z _ k hk hz]
 · rw [List.getElem?_eq_none (by simp [madeCells]; omega), List.getElem?_eq_none (by simp; omega)]
def repV (l : Nat) (z : List Value) : List Value := (List.replicate l z).flatten
theorem repV_zero (z : List Value) : repV 0 z = [] := rfl
theorem repV_succ (n : Nat) (z : List Value) : repV (n + 1) z = z ++ repV n z := by simp [repV, List.replicate_succ]
theorem repV_length (l : Nat) (z : List Value) : (repV l z).length = l * z.length := by simp [repV]
def evMake (P : Program) (H : Hp) (t : TypeId) (l c : Value) (K : Value → Hp → Prop) : Prop :=
 match slI P t, l, c with
 | some (e, s, by_), .int _ l, .int _ c => match zeroL P e with
   | some z => (0 ≤ l ∧ l ≤ c ∧ c * by_ ≤ (two47 : Int)) ∧ ∀ b, fresh b H → K (.slice (some ⟨b, 0, none⟩) l.toNat c.toNat) (⟨b, 0, .vec e s c.toNat, repV l.toNat z⟩ :: H)
   | none => False
 | _, _, _ => False
theorem zeroL_info {P : Program} {e : TypeId} {i : TypeInfo} {z : Value} {zl : List Value} (hi : P.info? e = some i) (hz : i.zero = some z) (h : zeroL P e = some zl) : z.cells = zl.toArray := by
 unfold zeroL at h
 rw [hi] at h
 simp only [hz, Option.map_some, Option.some.injEq] at h
 rw [← h]
theorem Sat.make {P : Program} {w0 w : World} {mu : Nat → Prop} {H : Hp} (h : Sat w0 mu H w) {t : TypeId} {l c : Value} {K : Value → Hp → Prop} (hk : evMake P H t l c K) :
  ∃ v H' w', (Instr.makeSlice t l c).run P w = .ok v w' ∧ K v H' ∧ Sat w0 mu H' w' ∧ marksOf H' = marksOf H := by
 unfold evMake at hk
 split at hk
 case h_2 => exact hk.elim
 rename_i e s by_ k1 l k2 c hsl
 obtain ⟨hu, i, z, hi, hz, hzs, hsi, hby, hs0, hb0⟩ := slI_eq hsl
 subst hsi; subst hby
 split at hk
 case h_2 => exact hk.elim
 rename_i zl hzl
 obtain ⟨⟨hl0, hlc, hbound⟩, hK⟩ := hk
 have hzc := zeroL_info hi hz hzl
 have hzlen : zl.length = i.size := by rw [hzc] at hzs; simpa using hzs
 have hc1 : c ≤ c * (i.bytes : Int) := by
  have h1 : (1 : Int) ≤ i.bytes := by omega
  have := Int.mul_le_mul_of_nonneg_left h1 (show 0 ≤ c by omega)
  omega
 have h63 : c ≤ 9223372036854775807 := by unfold two47 at hbound; omega
 have h48 : (i.bytes : Int) * c ≤ 281474976710656 := by rw [Int.mul_comm]; unfold two47 at hbound; omega
 have hrun := run_make (P := P) w t e i z hu hi hz k1 k2 l c hl0 hlc h48 h63
 refine ⟨_, _, _, hrun, hK w.heap.size h.fresh_size, ?_, by simp [marksOf]⟩
 refine h.alloc rfl ?_
 unfold Ent.holds
 have hle : l.toNat * i.size ≤ c.toNat * i.size := Nat.mul_le_mul_right _ (by omega)
 refine ⟨rfl, _, (0, 0), World.alloc_heap_new _ _, .inl rfl, by rw [size_madeCells], by rw [repV_length, hzlen]; exact hle, fun k v hk => ?_⟩
 dsimp only at hk
 have hkl := (List.getElem?_eq_some_iff.1 hk).1
 rw [repV_length] at hkl
 rw [hzc, madeCells_get zl _ k (by rw [hzlen] at hkl; omega) (by omega)]
 rw [repV, flatten_rep_get zl _ k hkl] at hk
 exact hk
def litV : Nat → List Value → List Value
 | 0, _ => []
 | n + 1, z => z ++ litV n z
theorem litV_eq : ∀ (n : Nat) (z : List Value), litV n z = repV n z
 | 0, _ => rfl
 | n + 1, z => by rw [litV, repV_succ, litV_eq n z]
def evLit (P : Program) (H : Hp) (t : TypeId) (n : Nat) (parts : List (Nat × Value)) (K : Value → Hp → Prop) : Prop :=
 match slI P t with
 | some (e, s, _) => match zeroL P e with
   | some z => n * s ≤ 16777216 ∧ match fillL (fun i => some (i * s, s)) (litV n z) parts with
     | some l => ∀ b, fresh b H → K (.slice (some ⟨b, 0, none⟩) n n) (⟨b, 0, .vec e s n, l⟩ :: H)
     | none => False
   | none => False
 | none => False
theorem fillL_length {place : Nat → Option (Nat × Nat)} : ∀ (ps : List (Nat × Value)) (l r : List Value), fillL place l ps = some r → r.length = l.length
 | [], l, r, h => by simp only [fillL, Option.some.injEq] at h; rw [h]
 | (i, v) :: ps, l, r, h => by
   simp only [fillL] at h
   cases hx : place i with
   | none => simp [hx] at h
   | some x =>
     simp only [hx, Option.bind_some] at h
     split at h
     case isFalse => cases h
     rename_i hb
     rw [fillL_length ps _ r h, setSeg_length (by rw [hb.1]; exact hb.2)]
theorem Sat.lit {P : Program} {w0 w : World} {mu : Nat → Prop} {H : Hp} (h : Sat w0 mu H w) {t : TypeId} {n : Nat} {parts : List (Nat × Value)} {K : Value → Hp → Prop} (hk : evLit P H t n parts K) :
  ∃ v H' w', (Instr.buildSlice t n parts.toArray).run P w = .ok v w' ∧ K v H' ∧ Sat w0 mu H' w' ∧ marksOf H' = marksOf H := by
 unfold evLit at hk
 split at hk
 case h_2 => exact hk.elim
 rename_i e s by_ hsl
 obtain ⟨hu, i, z, hi, hz, hzs, hsi, hby, hs0, hb0⟩ := slI_eq hsl
 subst hsi
 split at hk
 case h_2 => exact hk.elim
 rename_i zl hzl
 obtain ⟨hle, hk⟩ := hk
 split at hk
 case h_2 => exact hk.elim
 rename_i l hf
 rw [litV_eq] at hf
 have hzc := zeroL_info hi hz hzl
 have hzlen : zl.length = i.size := by rw [hzc] at hzs; simpa using hzs
 have hn : ¬ 16777216 < n * i.size := by omega
 have hfill : Instr.fill (fun j => some (j * i.size, i.size)) (madeCells zl.toArray (n * i.size)) parts = some l.toArray := by
  have := fillL_eq (place := fun j => some (j * i.size, i.size)) (place' := fun j => some (j * i.size, i.size)) (fun _ _ h => h) parts _ l hf
  rw [← this]
  congr 1
  rw [← Array.toList_inj, ← hzlen, madeCells_flat zl n (by omega)]
  simp [repV]
 have hlen : l.length = n * i.size := by rw [fillL_length parts _ l hf, repV_length, hzlen]
 have hrun : (Instr.buildSlice t n parts.toArray).run P w = .ok (.slice (some ⟨w.heap.size, 0, none⟩) n n) (w.alloc (.cells l.toArray e)) := by
  by_cases h0 : n * i.size = 0
  · have hfill0 : Instr.fill (fun j => some (j * i.size, i.size)) #[] parts = some l.toArray := by
     rw [← hfill]; congr 1; rw [← Array.toList_inj]; simp [madeCells, h0]
    have hr0 : Array.map (fun _ : Nat => (default : Value)) (Array.range 0) = #[] := by simp [← Array.toList_inj]
    simp [Instr.buildSlice, run_underlying hu, sizeOf, typeInfo, hi, h0, hr0, hfill0, newRow]
  · unfold madeCells at hfill
    rw [← hzc] at hfill
    simp [Instr.buildSlice, run_underlying hu, sizeOf, typeInfo, hi, hn, h0, zeroValue, hz, newRow, hfill]
 refine ⟨_, _, _, hrun, hk w.heap.size h.fresh_size, ?_, by simp [marksOf]⟩
 refine h.alloc rfl ?_
 unfold Ent.holds
 exact ⟨rfl, _, (0, 0), World.alloc_heap_new _ _, .inl rfl, by simpa using hlen, by dsimp only; omega, fun k v hk => by simpa using hk⟩
def isBytes (P : Program) (t : TypeId) : Bool :=
 match P.underlying t with
 | some (.slice e) => match P.underlying e with
   | some (.int .u8) => true
   | _ => false
 | _ => false
theorem isBytes_eq {P : Program} {t : TypeId} (h : isBytes P t = true) : ∃ e, P.underlying t = some (.slice e) ∧ P.underlying e = some (.int .u8) := by
 unfold isBytes at h
 split at h
 · rename_i e hu
   split at h
   · exact ⟨e, hu, by assumption⟩
   · cases h
 · cases h
def bytesOf : List Value → Option (List UInt8)
 | [] => some []
 | .int .u8 n :: r => (bytesOf r).map (UInt8.ofNat n.toNat :: ·)
 | _ => none
theorem bytesOf_byteV : ∀ (l : List UInt8), bytesOf (byteV l) = some l
 | [] => rfl
 | x :: l => by
   have := bytesOf_byteV l
   simp only [byteV, List.map_cons, bytesOf] at this ⊢
   simp [this]
theorem bytesOf_ints : ∀ {l : List Value} {r : List UInt8}, bytesOf l = some r → ∃ ns : List Int, l = ns.map (Value.int .u8) ∧ r = ns.map fun n => UInt8.ofNat n.toNat
 | [], r, h => by simp only [bytesOf, Option.some.injEq] at h; exact ⟨[], rfl, h.symm⟩
 | x :: l, r, h => by
   unfold bytesOf at h
   split at h
   · rename_i heq; cases heq
   · rename_i n r' heq
     cases heq
     simp only [Option.map_eq_some_iff] at h
     obtain ⟨r2, h2, rfl⟩ := h
     obtain ⟨ns, rfl, rfl⟩ := bytesOf_ints h2
     exact ⟨n :: ns, by simp, by simp⟩
   · cases h
def strOfV (P : Program) (H : Hp) (s d : TypeId) (x : Value) : Option Value :=
 if isBytes P s && isStr P d then
  match x with
  | .slice none _ _ => some (.string ByteArray.empty)
  | .slice (some ⟨b, o, none⟩) n _ => if n = 0 then some (.string ByteArray.empty) else ((cellsAt H b o n).bind bytesOf).map fun l => .string ⟨l.toArray⟩
  | _ => none
 else none
theorem run_strOfV {P : Program} {w0 w : World} {mu : Nat → Prop} {H : Hp} (h : Sat w0 mu H w) {s d : TypeId} {x v : Value} (hv : strOfV P H s d x = some v) : (convert s d x).run P w = .ok v w := by
 unfold strOfV at hv
 split at hv
 case isFalse => cases hv
 rename_i hc
 simp only [Bool.and_eq_true] at hc
 obtain ⟨e, hs, he⟩ := isBytes_eq hc.1
 have hd := isStr_eq hc.2
 split at hv
 · rename_i n c
   cases hv
   rw [run_convert_bytes_string w s d e none n c hs he hd]
   rfl
 · rename_i b o n c
   rw [run_convert_bytes_string w s d e _ n c hs he hd]
   split at hv
   · rename_i h0
     cases hv
     subst h0
     rw [run_bytesToString w ⟨b, o, none⟩ 0 c [] (by simp [loadCells, loadCellsFrom])]
     rfl
   simp only [Option.map_eq_some_iff, Option.bind_eq_some_iff] at hv
   obtain ⟨r, ⟨l, hl, hr⟩, rfl⟩ := hv
   obtain ⟨ns, rfl, rfl⟩ := bytesOf_ints hr
   obtain ⟨h1, h2⟩ := h.cellsAt hl
   have hld : (loadCells ⟨b, o, none⟩ n).run P w = .ok (ns.map (Value.int .u8)).toArray w := by
    unfold loadCells
    rw [run_loadCellsFrom _ 0 _ #[] h1 (by simpa using h2)]
    simp
   rw [run_bytesToString w ⟨b, o, none⟩ n c ns hld, foldl_push_bytes]
   simp
 · cases hv
def evBytes (H : Hp) (x : Value) (K : Value → Hp → Prop) : Prop :=
 match x with
 | .string s => ∀ b c, fresh b H → s.size ≤ c → K (.slice (some ⟨b, 0, none⟩) s.size c) (⟨b, 0, .ro, byteV s.data.toList⟩ :: H)
 | _ => False
theorem Sat.bytes {P : Program} {w0 w : World} {mu : Nat → Prop} {H : Hp} (h : Sat w0 mu H w) {s d : TypeId} {x : Value} {K : Value → Hp → Prop} (hs : isStr P s = true) (hd : isBytes P d = true) (hk : evBytes H x K) :
  ∃ v H' w', (convert s d x).run P w = .ok v w' ∧ K v H' ∧ Sat w0 mu H' w' ∧ marksOf H' = marksOf H := by
 unfold evBytes at hk
 split at hk
 case h_2 => exact hk.elim
 rename_i s'
 obtain ⟨e, hd1, hd2⟩ := isBytes_eq hd
 obtain ⟨c, hc, hle⟩ : ∃ c, grownCap w s'.size 0 e = c ∧ s'.size ≤ c := ⟨_, rfl, grownCap_ge w _ _ _⟩
 let cs : Array Value := (s'.data.map fun b => Value.int .u8 b.toNat) ++ Array.replicate (c - s'.size) (.int .u8 0)
 have hcs : cs.size = c := by simp only [cs, Array.size_append, Array.size_map, Array.size_replicate]; show s'.size + _ = _; omega
 let w' : World := (w.drew.alloc (.cells cs e)).freeze ⟨w.heap.size, cs.size, none⟩ 1
 have hw' : w'.heap[w.heap.size]? = some (.cells cs e (cs.size, cs.size + 1)) := by
  simp only [w', World.freeze, Nat.one_ne_zero, if_false]
  rw [Array.getElem?_modify, if_pos rfl, show w.heap.size = w.drew.heap.size from rfl, World.alloc_heap_new]
  simp
 have hrun : (convert s d (.string s')).run P w = .ok (.slice (some ⟨w.heap.size, 0, none⟩) s'.size c) w' := by
  simp only [convert, Sem.run_bind, run_underlying (isStr_eq hs), run_underlying hd1, Result.andThen_ok, run_underlying hd2]
  have hc' : (Question.appendCap s'.size 0 e).cut (w.tape w.drawn (.appendCap s'.size 0 e)) = c := hc
  have hnew := World.alloc_heap_new w.drew (.cells cs e)
  rw [show w.drew.heap.size = w.heap.size from rfl] at hnew
  have hcs' : (s'.data.map fun b => Value.int .u8 b.toNat) ++ Array.replicate (c - s'.size) (.int .u8 0) = cs := rfl
  have hm : (markStringish ⟨w.heap.size, 0, none⟩).run P (w.drew.alloc (.cells cs e)) = .ok () w' := by
   unfold markStringish
   simp only [Sem.run_bind, run_shape, World.shape?, hnew, Result.andThen_ok]
   rfl
  simp [Conv.stringToBytes, Question.forced, hc', newRow, hcs', hm]
 refine ⟨_, _, w', hrun, hk w.heap.size c h.fresh_size hle, ?_, by simp [marksOf]⟩
 have ht : Turn w.heap.size w w' := by
  refine ⟨rfl, rfl, rfl, by simp [w', World.freeze], fun k hk hne => ?_⟩
  simp only [w', World.freeze]
  simp [Array.getElem?_modify, Ne.symm hne]
  exact Below.heap_alloc w.drew _ k hk
 refine h.front ht (.inr h.size) rfl ?_ (fun x hx => ⟨hx, by have := Ent.lt (h.ents x hx); omega⟩) h.apart
 unfold Ent.holds
 refine ⟨by simp [w', World.freeze], fun k v hk => ?_⟩
 dsimp only at hk
 simp only [World.cell?, hw', Nat.zero_add]
 have hkl : k < s'.size := by have := (List.getElem?_eq_some_iff.1 hk).1; simpa [byteV] using this
 simp only [Option.isSome_none, Bool.false_eq_true, if_false, cs]
 rw [Array.getElem?_append_left (by simpa using hkl)]
 simpa [byteV] using hk
def evBytesW (P : Program) (d : TypeId) (H : Hp) (x : Value) (K : Value → Hp → Prop) : Prop :=
 match x, slI P d with
 | .string s, some (e, 1, _) => ∀ b c, fresh b H → s.size ≤ c → K (.slice (some ⟨b, 0, none⟩) s.size c) (⟨b, 0, .vec e 1 c, byteV s.data.toList⟩ :: H)
 | _, _ => False
theorem Sat.bytesW {P : Program} {w0 w : World} {mu : Nat → Prop} {H : Hp} (h : Sat w0 mu H w) {s d : TypeId} {x : Value} {K : Value → Hp → Prop} (hs : isStr P s = true) (hd : isBytes P d = true) (hk : evBytesW P d H x K) :
  ∃ v H' w', (convert s d x).run P w = .ok v w' ∧ K v H' ∧ Sat w0 mu H' w' ∧ marksOf H' = marksOf H := by
 unfold evBytesW at hk
 split at hk
 case h_2 => exact hk.elim
 rename_i s' e0 by0 hsl
 obtain ⟨e, hd1, hd2⟩ := isBytes_eq hd
 obtain ⟨hu0, -⟩ := slI_eq hsl
 obtain rfl : e = e0 := by rw [hd1] at hu0; cases hu0; rfl
 obtain ⟨c, hc, hle⟩ : ∃ c, grownCap w s'.size 0 e = c ∧ s'.size ≤ c := ⟨_, rfl, grownCap_ge w _ _ _⟩
 let cs : Array Value := (s'.data.map fun b => Value.int .u8 b.toNat) ++ Array.replicate (c - s'.size) (.int .u8 0)
 have hcs : cs.size = c := by simp only [cs, Array.size_append, Array.size_map, Array.size_replicate]; show s'.size + _ = _; omega
 let w' : World := (w.drew.alloc (.cells cs e)).freeze ⟨w.heap.size, cs.size, none⟩ 1
 have hw' : w'.heap[w.heap.size]? = some (.cells cs e (cs.size, cs.size + 1)) := by
  simp only [w', World.freeze, Nat.one_ne_zero, if_false]
  rw [Array.getElem?_modify, if_pos rfl, show w.heap.size = w.drew.heap.size from rfl, World.alloc_heap_new]
  simp
 have hrun : (convert s d (.string s')).run P w = .ok (.slice (some ⟨w.heap.size, 0, none⟩) s'.size c) w' := by
  simp only [convert, Sem.run_bind, run_underlying (isStr_eq hs), run_underlying hd1, Result.andThen_ok, run_underlying hd2]
  have hc' : (Question.appendCap s'.size 0 e).cut (w.tape w.drawn (.appendCap s'.size 0 e)) = c := hc
  have hnew := World.alloc_heap_new w.drew (.cells cs e)
  rw [show w.drew.heap.size = w.heap.size from rfl] at hnew
  have hcs' : (s'.data.map fun b => Value.int .u8 b.toNat) ++ Array.replicate (c - s'.size) (.int .u8 0) = cs := rfl
  have hm : (markStringish ⟨w.heap.size, 0, none⟩).run P (w.drew.alloc (.cells cs e)) = .ok () w' := by
   unfold markStringish
   simp only [Sem.run_bind, run_shape, World.shape?, hnew, Result.andThen_ok]
   rfl
  simp [Conv.stringToBytes, Question.forced, hc', newRow, hcs', hm]
 refine ⟨_, _, w', hrun, hk w.heap.size c h.fresh_size hle, ?_, by simp [marksOf]⟩
 have ht : Turn w.heap.size w w' := by
  refine ⟨rfl, rfl, rfl, by simp [w', World.freeze], fun k hk hne => ?_⟩
  simp only [w', World.freeze]
  simp [Array.getElem?_modify, Ne.symm hne]
  exact Below.heap_alloc w.drew _ k hk
 refine h.front ht (.inr h.size) rfl ?_ (fun x hx => ⟨hx, by have := Ent.lt (h.ents x hx); omega⟩) h.apart
 unfold Ent.holds
 have hbl : (byteV s'.data.toList).length = s'.size := by simp [byteV]
 refine ⟨rfl, cs, (cs.size, cs.size + 1), hw', .inr ⟨rfl, Nat.le_refl _⟩, by rw [hcs, Nat.mul_one], by rw [hbl, Nat.mul_one]; exact hle, fun k v hk => ?_⟩
 dsimp only at hk
 have hkl : k < s'.size := by have := (List.getElem?_eq_some_iff.1 hk).1; simpa [byteV] using this
 simp only [cs]
 rw [Array.getElem?_append_left (by simpa using hkl)]
 simpa [byteV] using hk
def ptrOk (P : Program) (s d t : TypeId) (n : Nat) : Bool :=
 match P.underlying s, P.underlying d with
 | some (.pointer e), some .unsafePointer => match P.info? e with
   | some j => decide (j.size ≠ 0) && decide (0 < n)
   | none => false
 | some .unsafePointer, some (.pointer u) => (P.info? u).isSome && liesAt P P.depth t (n / P.cellsOf t) 0 u 1
 | _, _ => false
def ptrC (P : Program) (H : Hp) (s d : TypeId) (x : Value) : Option Value :=
 match x with
 | .pointer (some ⟨b, 0, none⟩) => match findE H b with
   | some ⟨_, _, .cel t, cs⟩ => if ptrOk P s d t cs.length then some (.pointer (some ⟨b, 0, none⟩)) else none
   | _ => none
 | _ => none
theorem run_ptrC {P : Program} {w0 w : World} {mu : Nat → Prop} {H : Hp} (h : Sat w0 mu H w) {s d : TypeId} {x v : Value} (hv : ptrC P H s d x = some v) : (convert s d x).run P w = .ok v w := by
 unfold ptrC at hv
 split at hv
 case h_2 => cases hv
 rename_i b
 split at hv
 case h_2 => cases hv
 rename_i _ b' o' t cs hf
 split at hv
 case isFalse => cases hv
 rename_i hp
 cases hv
 obtain ⟨hm, hb⟩ := findE_mem hf
 have hh := h.ents _ hm
 unfold Ent.holds at hh
 dsimp only at hh hb
 subst hb
 have hsh : w.shape? b' = some (t, cs.length) := by simp [World.shape?, hh.2]
 unfold ptrOk at hp
 split at hp
 · rename_i e hs hd
   split at hp
   · rename_i j hj
     simp only [Bool.and_eq_true, decide_eq_true_eq] at hp
     exact Lib.run_to_unsafe w ⟨b', 0, none⟩ hs hd hj hp.1 hsh hp.2
   · cases hp
 · rename_i u hs hd
   simp only [Bool.and_eq_true] at hp
   obtain ⟨j, hj⟩ := Option.isSome_iff_exists.1 hp.1
   exact Lib.run_from_unsafe w ⟨b', 0, none⟩ hs hd hj hsh hp.2
 · cases hp
def byteL : List Value → Option (List UInt8)
 | [] => some []
 | .int .u8 n :: r => if 0 ≤ n ∧ n < 256 then (byteL r).map (UInt8.ofNat n.toNat :: ·) else none
 | _ => none
theorem byteL_byteV : ∀ (l : List UInt8), byteL (byteV l) = some l
 | [] => rfl
 | x :: l => by
   have := byteL_byteV l
   have hx : x.toNat < 256 := x.toNat_lt
   simp only [byteV, List.map_cons, byteL] at this ⊢
   rw [if_pos ⟨by omega, by omega⟩]
   simp [this]
theorem byteL_some : ∀ {c : List Value} {l : List UInt8}, byteL c = some l → c = byteV l
 | [], l, h => by simp only [byteL, Option.some.injEq] at h; subst h; rfl
 | x :: c, l, h => by
   unfold byteL at h
   split at h
   · rename_i heq; cases heq
   · rename_i n r heq
     cases heq
     split at h
     · rename_i hn
       simp only [Option.map_eq_some_iff] at h
       obtain ⟨r2, h2, rfl⟩ := h
       rw [byteL_some h2]
       simp only [byteV, List.map_cons]
       congr 2
       have : n.toNat < 256 := by omega
       simp [Nat.mod_eq_of_lt this]
       omega
     · cases h
   · cases h
def usOk (P : Program) (st e : TypeId) : Bool :=
 match P.underlying st with
 | some (.pointer e') => e' == e && P.cellsOf e == 1
 | _ => false
def usV (P : Program) (H : Hp) (st : TypeId) (p n : Value) : Option (ByteArray × Hp) :=
 match p, n with
 | .pointer none, .int .i64 m => if m = 0 then some (ByteArray.empty, H) else none
 | .pointer (some ⟨b, 0, none⟩), .int .i64 m => if m = 0 then some (ByteArray.empty, H) else match findE H b with
   | some ⟨_, _, .vec e s _, cs⟩ => if s = 1 ∧ 0 < m ∧ m ≤ cs.length ∧ m ≤ 9223372036854775807 ∧ usOk P st e then (byteL (cs.take m.toNat)).map fun l => (⟨l.toArray⟩, remE H b) else none
   | _ => none
 | _, _ => none
theorem Sat.us {P : Program} {w0 w : World} {mu : Nat → Prop} {H H' : Hp} (h : Sat w0 mu H w) {st it ty : TypeId} {p n : Value} {s : ByteArray} (hv : usV P H st p n = some (s, H')) :
  ∃ w', (Builtin.unsafeString_ #[st, it] ty #[p, n]).run P w = .ok (.string s) w' ∧ Sat w0 mu H' w' ∧ marksOf H' = marksOf H := by
 unfold usV at hv
 split at hv
 · split at hv
   · rename_i h0
     cases hv
     subst h0
     exact ⟨w, Lib.run_unsafeString_none w _ _ _ _, h, rfl⟩
   · cases hv
 · rename_i b m
   split at hv
   · rename_i h0
     cases hv
     subst h0
     exact ⟨w, Lib.run_unsafeString_none w _ _ _ _, h, rfl⟩
   split at hv
   case h_2 => cases hv
   rename_i _ b' o' e z cap cs hf
   split at hv
   case isFalse => cases hv
   rename_i hc
   obtain ⟨rfl, hm0, hml, hm63, hus⟩ := hc
   simp only [Option.map_eq_some_iff] at hv
   obtain ⟨l, hl, hv⟩ := hv
   cases hv
   obtain ⟨hmem, hb⟩ := findE_mem hf
   dsimp only at hb
   subst hb
   have hh := h.ents _ hmem
   unfold Ent.holds at hh
   dsimp only at hh
   obtain ⟨-, xs, fz, hx, hfz, hxs, hle, hg⟩ := hh
   have hcl := byteL_some hl
   have hlen : l.length = m.toNat := by
    have := congrArg List.length hcl
    simp only [List.length_take, byteV, List.length_map] at this
    omega
   have hl0 : l ≠ [] := by intro h0; rw [h0] at hlen; simp at hlen; omega
   unfold usOk at hus
   split at hus
   case h_2 => cases hus
   rename_i e' hu
   simp only [Bool.and_eq_true, beq_iff_eq] at hus
   obtain ⟨rfl, hce⟩ := hus
   have hrun := Lib.run_unsafeString_row w st it ty e' hu hce b' xs.size (by simp [World.shape?, hx]) l hl0 (by omega) (by omega) (fun j x hj => by
    have h1 : cs[j]? = some (.int .u8 x.toNat) := by
     have h2 : (cs.take m.toNat)[j]? = some (.int .u8 x.toNat) := by rw [hcl]; simp [byteV, hj]
     rw [List.getElem?_take] at h2
     split at h2
     · exact h2
     · cases h2
    have h3 := hg j _ h1
    rcases Nat.eq_zero_or_pos j with rfl | hj0
    · simp [World.cell?, Addr.add, hx, h3]
    · simp [World.cell?, Addr.add, hx, h3, show ¬ j = 0 by omega])
   rw [show ((l.length : Nat) : Int) = m by omega] at hrun
   have hw : Ent.wr ⟨b', o', .vec e' 1 cap, cs⟩ := trivial
   have hmo : ∀ o, (Ent.mk b' o' (.vec e' 1 cap) cs).kind ≠ .obj o := by intro o ho; cases ho
   have hturn : Turn b' w (w.freeze ⟨b', 0, none⟩ l.length) := by
    unfold World.freeze
    split
    · exact ⟨rfl, rfl, rfl, Nat.le_refl _, fun _ _ _ => rfl⟩
    · refine ⟨rfl, rfl, rfl, ?_, fun k hk hne => ?_⟩
      · simp
      · simp only [Array.getElem?_modify]
        rw [if_neg (fun h => hne h.symm)]
   refine ⟨_, hrun, ?_, marks_remE hf hmo⟩
   have hsub := remE_sub H b'
   have hne := remE_ne hw h.apart hf
   exact ⟨hturn.os.trans h.os, hturn.tape.trans h.tape, hturn.output.trans h.output, Nat.le_trans h.size hturn.size, h.old_turn hturn (h.own _ hmem hw),
    fun e he => Ent.holds_of (h.ents e (hsub.subset he)) (hturn.same _ (Ent.lt (h.ents e (hsub.subset he))) (hne e he)), fun e he => h.own e (hsub.subset he), h.apart.sublist hsub⟩
 · cases hv
end Go.Ev
namespace Go.Ev
theorem eqC_self_append : ∀ {k1 k2 : List CK} {xs : List Value} {r : Bool}, eqC (k1 ++ k2) xs xs = some r →
  ∃ r1 r2, eqC k1 (xs.take k1.length) (xs.take k1.length) = some r1 ∧ eqC k2 (xs.drop k1.length) (xs.drop k1.length) = some r2 := fun h => by
 obtain ⟨r1, r2, h1, h2, _⟩ := eqC_append h
 exact ⟨r1, r2, h1, h2⟩
theorem run_ckC {P : Program} : ∀ (d : Nat) {t : TypeId} {ks : List CK} {n : Nat} {ag : Bool} {xs : List Value} {x : Value} {r : Bool} (w : World) (D : Nat) (em : Bool),
  flatK P d t = some ks → tyI P t = some (n, ag) → ofCells ag xs = some x → eqC ks xs xs = some r → (Instr.checkKey em (d + D) t x).run P w = .ok () w
 | 0, _, _, _, _, _, _, _, _, _, _, h, _, _, _ => by simp [flatK] at h
 | d + 1, t, ks, n, ag, xs, x, r, w, D, em, h, hty, hx, he => by
   have hd : d + 1 + D = (d + D) + 1 := by omega
   rw [hd]
   have part1 : ∀ {e : TypeId} {l : List CK} {o : Nat} {r1 : Bool}, flatK P d e = some l → l.length = P.cellsOf e →
     eqC l ((xs.drop o).take l.length) ((xs.drop o).take l.length) = some r1 →
     ∃ u, (part e xs.toArray o).run P w = .ok u w ∧ (Instr.checkKey em (d + D) e u).run P w = .ok () w := by
    intro e l o r1 hf hlen h1
    obtain ⟨de, hue⟩ := flatK_under hf
    obtain ⟨age, hte, _⟩ := tyI_some hue
    have hl1 := eqC_length h1
    rw [hlen] at h1 hl1
    have hone : age = false → P.cellsOf e = 1 := by
     rintro rfl
     rw [← hlen]; exact flat_one hf hte
    obtain ⟨u, hu1, hu2⟩ := part_seg xs o hl1.1 hone
    exact ⟨u, run_part hte hu1, run_ckC d w D em hf hte hu2 h1⟩
   unfold flatK at h
   split at h
   · rename_i hu; simp [Instr.checkKey, run_underlying hu]
   · rename_i k hu; simp [Instr.checkKey, run_underlying hu]
   · rename_i hu; simp [Instr.checkKey, run_underlying hu]
   · rename_i m e hu
     obtain ⟨ag', ht', hag⟩ := tyI_some hu
     rw [hty] at ht'; cases ht'
     have : ag = true := by simp_all
     subst this
     simp only [ofCells, Option.some.injEq] at hx
     subst hx
     cases hf : flatK P d e with
     | none => simp [hf] at h
     | some l =>
       simp only [hf, Option.bind_some] at h
       split at h
       case isFalse => cases h
       rename_i hlen
       cases h
       obtain ⟨de, hue⟩ := flatK_under hf
       obtain ⟨ie, hie⟩ := info_of_underlying hue
       have hcs : P.cellsOf e = ie.size := by simp [Program.cellsOf, hie]
       have key : ∀ (m k : Nat) (r : Bool), eqC ((List.replicate m l).flatten) (xs.drop (k * P.cellsOf e)) (xs.drop (k * P.cellsOf e)) = some r →
         ∀ i ∈ List.range' k m, ∃ u, (part e xs.toArray (i * ie.size)).run P w = .ok u w ∧ (Instr.checkKey em (d + D) e u).run P w = .ok () w := by
        intro m
        induction m with
        | zero => intro k r h i hi; simp at hi
        | succ m ih =>
          intro k r h i hi
          rw [List.replicate_succ, List.flatten_cons] at h
          obtain ⟨r1, r2, h1, h2⟩ := eqC_self_append h
          rw [List.drop_drop, hlen, show k * P.cellsOf e + P.cellsOf e = (k + 1) * P.cellsOf e by rw [Nat.succ_mul]] at h2
          rw [List.range'_succ] at hi
          rcases List.mem_cons.1 hi with rfl | hi
          · rw [← hcs]; exact part1 hf hlen h1
          · exact ih (k + 1) r2 h2 i hi
       have each := key m 0 r (by simpa using he)
       clear key
       rw [Instr.checkKey]
       simp only [Sem.run_bind, run_underlying hu, Result.andThen_ok]
       simp only [Std.Legacy.Range.forIn_eq_forIn_range', Std.Legacy.Range.size, Nat.sub_zero, Nat.add_one_sub_one, Nat.div_one]
       generalize List.range' 0 m = is at each
       induction is with
       | nil => simp
       | cons j is ih =>
         obtain ⟨u, p1, p2⟩ := each j (by simp)
         have hso : (sizeOf e).run P w = .ok ie.size w := by simp [sizeOf, typeInfo, hie]
         simp only [List.forIn_cons, Sem.run_bind, hso, Result.andThen_ok, p1, p2, Sem.run_pure]
         exact ih (fun y hy => each y (by simp [hy]))
   · rename_i fs hu
     obtain ⟨ag', ht', hag⟩ := tyI_some hu
     rw [hty] at ht'; cases ht'
     have : ag = true := by simp_all
     subst this
     simp only [ofCells, Option.some.injEq] at hx
     subst hx
     split at h
     · cases h
     rename_i hst
     have key : ∀ (L : List Field) (o : Nat) (ks : List CK) (r : Bool),
       L.foldr (fun f acc off => if f.name ≠ "_" ∧ f.offset = off then (flatK P d f.type).bind fun l => if l.length = P.cellsOf f.type then (acc (off + l.length)).map (l ++ ·) else none else none) (fun _ => some []) o = some ks →
       eqC ks (xs.drop o) (xs.drop o) = some r → ∀ f ∈ L, f.name ≠ "_" ∧ ∃ u, (part f.type xs.toArray f.offset).run P w = .ok u w ∧ (Instr.checkKey em (d + D) f.type u).run P w = .ok () w := by
      intro L
      induction L with
      | nil => intro o ks r h he f hf; cases hf
      | cons f L ih =>
        intro o ks r h he g hg
        simp only [List.foldr_cons] at h
        split at h
        case isFalse => cases h
        rename_i hname
        cases hf : flatK P d f.type with
        | none => simp [hf] at h
        | some l =>
          simp only [hf, Option.bind_some] at h
          split at h
          case isFalse => cases h
          rename_i hlen
          simp only [Option.map_eq_some_iff] at h
          obtain ⟨ks2, hk2, rfl⟩ := h
          obtain ⟨r1, r2, h1, h2⟩ := eqC_self_append he
          rw [List.drop_drop] at h2
          rcases List.mem_cons.1 hg with rfl | hg
          · rw [hname.2]; exact ⟨hname.1, part1 hf hlen h1⟩
          · exact ih (o + l.length) ks2 r2 hk2 h2 g hg
     have each := key fs.toList 0 ks r h (by simpa using he)
     clear key
     rw [Instr.checkKey]
     simp only [Sem.run_bind, run_underlying hu, Result.andThen_ok]
     rw [← Array.forIn_toList]
     generalize fs.toList = L at each
     induction L with
     | nil => simp
     | cons f L ih =>
       obtain ⟨hn, u, p1, p2⟩ := each f (by simp)
       simp only [List.forIn_cons, Sem.run_bind, hn, ne_eq, not_false_eq_true, if_true, Result.andThen_ok, p1, p2, Sem.run_pure]
       exact ih (fun y hy => each y (by simp [hy]))
   · cases h
def findV (ks : List CK) (k : List Value) : List MapEntry → Nat → Option (Option (Nat × Value))
 | [], _ => some none
 | e :: es, i => match e.key with
   | .agg cs => match eqC ks k cs.toList with
     | some true => some (some (i, e.val))
     | some false => findV ks k es (i + 1)
     | none => none
   | _ => none
theorem run_findV {P : Program} {w : World} {kt : TypeId} {ks : List CK} {n : Nat} (hf : flatK P 12 kt = some ks) (ht : tyI P kt = some (n, true)) (k : List Value) : ∀ (es : List MapEntry) (i : Nat) (r : Option (Nat × Value)),
  findV ks k es i = some r → (Instr.findAsking kt (.agg k.toArray) es i).run P w = .ok r w
 | [], i, r, h => by simp only [findV, Option.some.injEq] at h; subst h; simp [Instr.findAsking]
 | e :: es, i, r, h => by
   unfold findV at h
   split at h
   case h_2 => cases h
   rename_i cs hk
   have heq : ∀ b, eqC ks k cs.toList = some b → (Op.equal kt (.agg k.toArray) e.key).run P w = .ok b w := fun b hb => by
    rw [hk]
    unfold Op.equal Op.maxDepth
    exact run_eqC 12 w 9988 hf ht (xs := k) (ys := cs.toList) (by simp [ofCells]) (by simp [ofCells]) hb
   split at h
   · rename_i hb; cases h
     simp [Instr.findAsking, heq _ hb]
   · rename_i hb
     simp only [Instr.findAsking, Sem.run_bind, heq _ hb, Result.andThen_ok, Bool.false_eq_true, if_false]
     exact run_findV hf ht k es (i + 1) r h
   · cases h
theorem wide_of {P : Program} {kt : TypeId} {ks : List CK} {n : Nat} (ht : tyI P kt = some (n, true)) : (match P.underlying kt with | some (.array _ _) | some (.struct _) => true | _ => false) = true := by
 unfold tyI at ht
 split at ht <;> simp_all
theorem bytes_same (a : ByteArray) : (a == a) = true := by
 obtain ⟨x⟩ := a
 show (x == x) = true
 simp
theorem sameBits_eqC : ∀ {ks : List CK} {xs ys : List Value} (m : Nat), eqC ks xs ys = some true → ((ys.zip xs).all fun (x, y) => Instr.sameBits m x y) = true
 | [], [], [], _, _ => rfl
 | [], _ :: _, _, _, h => by simp [eqC] at h
 | [], [], _ :: _, _, h => by simp [eqC] at h
 | k :: ks, [], _, _, h => by cases k <;> simp [eqC] at h
 | k :: ks, x :: xs, [], _, h => by cases k <;> cases x <;> simp [eqC] at h
 | k :: ks, x :: xs, y :: ys, m, h => by
   cases k <;> cases x <;> cases y <;> simp only [eqC, reduceCtorEq] at h
   case b.bool.bool a b =>
    cases hh : eqC ks xs ys with
    | none => simp [hh] at h
    | some r =>
      simp only [hh, Option.map_some, Option.some.injEq, Bool.and_eq_true, beq_iff_eq] at h
      obtain ⟨rfl, rfl⟩ := h
      have := sameBits_eqC m hh
      simp only [List.zip_cons_cons, List.all_cons, this, Bool.and_true]
      cases m <;> simp [Instr.sameBits]
   case i.int.int k a k' b =>
    split at h
    · rename_i hk
      cases hh : eqC ks xs ys with
      | none => simp [hh] at h
      | some r =>
        simp only [hh, Option.map_some, Option.some.injEq, Bool.and_eq_true, beq_iff_eq] at h
        obtain ⟨rfl, rfl⟩ := h
        have := sameBits_eqC m hh
        simp only [List.zip_cons_cons, List.all_cons, this, Bool.and_true]
        subst hk
        cases m <;> simp [Instr.sameBits]
    · cases h
   case s.string.string a b =>
    cases hh : eqC ks xs ys with
    | none => simp [hh] at h
    | some r =>
      simp only [hh, Option.map_some, Option.some.injEq, Bool.and_eq_true] at h
      obtain ⟨h1, rfl⟩ := h
      have := sameBits_eqC m hh
      simp only [List.zip_cons_cons, List.all_cons, this, Bool.and_true]
      have hab : a = b := by
       rw [beq_iff_eq] at h1
       obtain ⟨a⟩ := a
       obtain ⟨b⟩ := b
       have e1 : (ByteArray.mk a).toList = a.toList := by rw [show a = a.toList.toArray by simp]; exact ByteArray.toList_mk _
       have e2 : (ByteArray.mk b).toList = b.toList := by rw [show b = b.toList.toArray by simp]; exact ByteArray.toList_mk _
       rw [e1, e2] at h1
       congr 1
       exact Array.toList_inj.1 h1
      subst hab
      cases m <;> simp [Instr.sameBits, bytes_same a]
theorem findV_key {ks : List CK} {k : List Value} : ∀ {es : List MapEntry} {i j : Nat} {v : Value}, findV ks k es i = some (some (j, v)) → i ≤ j ∧ ∃ e cs, es[j - i]? = some e ∧ e.key = .agg cs ∧ eqC ks k cs.toList = some true
 | [], _, _, _, h => by simp [findV] at h
 | e :: es, i, j, v, h => by
   unfold findV at h
   split at h
   case h_2 => cases h
   rename_i cs hk
   split at h
   · rename_i hb; cases h
     exact ⟨Nat.le_refl _, e, cs, by simp, hk, hb⟩
   · obtain ⟨h1, e', cs', h2, h3⟩ := findV_key h
     refine ⟨by omega, e', cs', ?_, h3⟩
     rw [show j - i = (j - (i + 1)) + 1 by omega]
     simpa using h2
   · cases h
def zeroVal (P : Program) (t : TypeId) : Option Value :=
 match P.info? t with
 | some i => i.zero
 | none => none
def mapI (P : Program) (t : TypeId) : Option (TypeId × TypeId) :=
 match P.underlying t with
 | some (.map k e) => some (k, e)
 | _ => none
def mapK (P : Program) (t : TypeId) : Option (List CK × Value) :=
 match mapI P t with
 | some (kt, et) => match flatK P 12 kt, tyI P kt, zeroVal P et with
   | some ks, some (_, true), some z => some (ks, z)
   | _, _, _ => none
 | none => none
theorem mapK_eq {P : Program} {t : TypeId} {ks : List CK} {z : Value} (h : mapK P t = some (ks, z)) :
  ∃ kt et n, P.underlying t = some (.map kt et) ∧ flatK P 12 kt = some ks ∧ tyI P kt = some (n, true) ∧ ∀ w : World, (zeroValue et).run P w = .ok z w := by
 unfold mapK mapI at h
 split at h
 case h_2 => cases h
 rename_i kt et hm
 split at hm
 case h_2 => cases hm
 rename_i hu
 cases hm
 split at h
 case h_2 => cases h
 rename_i hf ht hz
 cases h
 refine ⟨_, _, _, hu, hf, ht, fun w => ?_⟩
 unfold zeroVal at hz
 split at hz
 case h_2 => cases hz
 rename_i i hi
 simp [zeroValue, typeInfo, hi, hz]
def okV (ok there : Bool) (v : Value) : Value := if ok then .tuple #[v, .bool there] else v
def evLookup (P : Program) (H : Hp) (t : TypeId) (m k : Value) (ok : Bool) (K : Value → Hp → Prop) : Prop :=
 match mapK P t, k with
 | some (ks, z), .agg kcs => (eqC ks kcs.toList kcs.toList).isSome = true ∧ match m with
   | .map (some b) => match findE H b with
     | some ⟨_, _, .obj (.map es _), _⟩ => match findV ks kcs.toList es.toList 0 with
       | some (some (_, v)) => K (okV ok true v) H
       | some none => K (okV ok false z) H
       | none => False
     | _ => False
   | .map none => K (okV ok false z) H
   | _ => False
 | _, _ => False
def evMapUpd (P : Program) (H : Hp) (t : TypeId) (m k v : Value) (K : Value → Hp → Prop) : Prop :=
 match mapK P t, k with
 | some (ks, _), .agg kcs => (eqC ks kcs.toList kcs.toList).isSome = true ∧ match m with
   | .map (some b) => match findE H b with
     | some ⟨_, _, .obj (.map es clk), _⟩ => match findV ks kcs.toList es.toList 0 with
       | some (some (i, _)) => K undef (⟨b, 0, .obj (.map (es.modify i fun e => { e with key := .agg kcs, val := v }) clk), []⟩ :: remE H b)
       | some none => K undef (⟨b, 0, .obj (.map (es.push { key := .agg kcs, val := v, born := clk }) (clk + 1)), []⟩ :: remE H b)
       | none => False
     | _ => False
   | _ => False
 | _, _ => False
section
variable {P : Program} {w0 w : World} {mu : Nat → Prop} {H : Hp}
theorem getObj_map {r : Nat} {es : Array MapEntry} {clock : Nat} (hb : w.heap[r]? = some (.map es clock)) : (getObj r).run P w = .ok (.map es clock) w := by
 simp [getObj, Sem.run, hb]
theorem setObj_map {r : Nat} {es : Array MapEntry} {clock : Nat} (o : Obj) (hb : w.heap[r]? = some (.map es clock)) : (setObj r o).run P w = .ok () { w with heap := w.heap.setIfInBounds r o } := by
 simp [setObj, Sem.run, hb]
theorem heap_set' {r : Nat} {o o' : Obj} (hb : w.heap[r]? = some o) : (w.heap.setIfInBounds r o')[r]? = some o' ∧ ∀ r', r' ≠ r → (w.heap.setIfInBounds r o')[r']? = w.heap[r']? := by
 have hlt : r < w.heap.size := (Array.getElem?_eq_some_iff.1 hb).1
 exact ⟨by simp [hlt], fun r' hne => by simp [Ne.symm hne]⟩
theorem run_find {ks : List CK} {kt : TypeId} {n : Nat} {k : List Value} {es : Array MapEntry} {r : Option (Nat × Value)} (hf : flatK P 12 kt = some ks) (ht : tyI P kt = some (n, true)) (h : findV ks k es.toList 0 = some r) (w : World) :
  (Instr.findKey kt (.agg k.toArray) es.toList).run P w = .ok r w := by
 rw [run_findKey_eq w (wide_of (ks := ks) ht)]
 exact run_findV hf ht k es.toList 0 r h
theorem run_check {ks : List CK} {kt : TypeId} {n : Nat} {k : List Value} (hf : flatK P 12 kt = some ks) (ht : tyI P kt = some (n, true)) (h : (eqC ks k k).isSome = true) (em : Bool) (w : World) :
  (Instr.checkKey em 10000 kt (.agg k.toArray)).run P w = .ok () w := by
 obtain ⟨r, hr⟩ := Option.isSome_iff_exists.1 h
 exact run_ckC 12 w 9988 em hf ht (xs := k) (by simp [ofCells]) hr
theorem Sat.lookup (h : Sat w0 mu H w) {t : TypeId} {m k : Value} {ok : Bool} {K : Value → Hp → Prop} (hk : evLookup P H t m k ok K) :
  ∃ v, (Instr.lookup t m k ok).run P w = .ok v w ∧ K v H := by
 unfold evLookup at hk
 split at hk
 case h_2 => exact hk.elim
 rename_i ks z kcs hmk
 obtain ⟨kt, et, n, hu, hf, ht, hz⟩ := mapK_eq hmk
 obtain ⟨hok, hk⟩ := hk
 have hck := fun em w => run_check (k := kcs.toList) hf ht hok em w
 simp only [Array.toArray_toList] at hck
 split at hk
 · rename_i b
   split at hk
   case h_2 => exact hk.elim
   rename_i blk off es clk cs he
   obtain ⟨hm, hb⟩ := findE_mem he
   dsimp only at hb
   subst hb
   have hh := h.ents _ hm
   unfold Ent.holds at hh
   obtain ⟨_, hb, _⟩ := hh
   dsimp only at hb
   have hg := getObj_map (P := P) hb
   split at hk
   · rename_i i v hfv
     have hfd := run_find hf ht hfv w
     simp only [Array.toArray_toList] at hfd
     exact ⟨_, by simp [Instr.lookup, run_underlying hu, hg, hck, hfd, okV], hk⟩
   · rename_i hfv
     have hfd := run_find hf ht hfv w
     simp only [Array.toArray_toList] at hfd
     exact ⟨_, by simp [Instr.lookup, run_underlying hu, hg, hck, hfd, hz, okV], hk⟩
   · exact hk.elim
 · refine ⟨_, ?_, hk⟩
   have hfd := run_find (P := P) (k := kcs.toList) (es := #[]) (r := none) hf ht (by simp [findV]) w
   simp only [Array.toArray_toList] at hfd
   simp [Instr.lookup, run_underlying hu, hck, hz, okV] 
   rw [show (Instr.findKey kt (.agg kcs) []).run P w = .ok none w from hfd]
   simp [hz]
 · exact hk.elim
theorem turn_set {b : Nat} {o o' : Obj} (hb : w.heap[b]? = some o) : Turn b w { w with heap := w.heap.setIfInBounds b o' } :=
 ⟨rfl, rfl, rfl, by simp, fun k _ hk => (heap_set' hb).2 k hk⟩
theorem Sat.mapUpd (h : Sat w0 mu H w) {t : TypeId} {m k v : Value} {K : Value → Hp → Prop} (hk : evMapUpd P H t m k v K) :
  ∃ H' w', (Instr.mapUpdate t m k v).run P w = .ok () w' ∧ K undef H' ∧ Sat w0 mu H' w' ∧ marksOf H' = marksOf H := by
 unfold evMapUpd at hk
 split at hk
 case h_2 => exact hk.elim
 rename_i ks z kcs hmk
 obtain ⟨kt, et, n, hu, hf, ht, hz⟩ := mapK_eq hmk
 obtain ⟨hok, hk⟩ := hk
 have hck := fun em w => run_check (k := kcs.toList) hf ht hok em w
 simp only [Array.toArray_toList] at hck
 split at hk
 case h_2 => exact hk.elim
 rename_i b
 split at hk
 case h_2 => exact hk.elim
 rename_i blk off es clk cs he
 obtain ⟨hm, hb⟩ := findE_mem he
 dsimp only at hb
 subst hb
 have hh := h.ents _ hm
 unfold Ent.holds at hh
 obtain ⟨_, hb, _⟩ := hh
 dsimp only at hb
 have hg := getObj_map (P := P) hb
 have hwr : Ent.wr ⟨blk, off, .obj (.map es clk), cs⟩ := trivial
 have hown : mu blk ∨ w0.heap.size ≤ blk := h.own _ hm hwr
 have hap : (remE H blk).Pairwise fun e f => (e.wr ∨ f.wr) → e.blk ≠ f.blk := h.apart.sublist (remE_sub H blk)
 have hne : ∀ x ∈ remE H blk, x.blk ≠ blk := remE_ne hwr h.apart he
 have hmk2 : ∀ {H : Hp}, findE H blk = some ⟨blk, off, .obj (.map es clk), cs⟩ → marksOf (remE H blk) = marksOf H := by
  intro H
  induction H with
  | nil => intro h; simp [findE] at h
  | cons x r ih =>
    intro h
    simp only [findE, remE] at h ⊢
    by_cases hx : blk = x.blk
    · rw [if_pos hx] at h ⊢
      cases h
      simp [marksOf]
    · rw [if_neg hx] at h ⊢
      simp only [marksOf, ih h]
 have hset : ∀ o' : Obj, o'.isCells = false → Sat w0 mu (⟨blk, 0, .obj o', []⟩ :: remE H blk) { w with heap := w.heap.setIfInBounds blk o' } := fun o' ho' => by
  refine h.front (turn_set hb) hown rfl ?_ (fun x hx => ⟨(remE_sub H blk).subset hx, hne x hx⟩) hap
  unfold Ent.holds
  exact ⟨rfl, (heap_set' hb).1, ho'⟩
 split at hk
 · rename_i i v0 hfv
   have hfd := run_find hf ht hfv w
   simp only [Array.toArray_toList] at hfd
   obtain ⟨_, e, ecs, h2, h3, h4⟩ := findV_key hfv
   have h2' : es[i]? = some e := by simpa using h2
   have hl := eqC_length h4
   have hst : (Instr.keyThatStays (.agg ecs) (.agg kcs)).run P w = .ok (.agg kcs) w := by
    have hsb : Instr.sameBits 10000 (.agg ecs) (.agg kcs) = true := by
     have := sameBits_eqC 9999 h4
     have hsz : ecs.size = kcs.size := by
      have h1 := hl.1; have h2 := hl.2
      rw [Array.length_toList] at h1 h2
      omega
     unfold Instr.sameBits
     rw [this, hsz, beq_self_eq_true, Bool.true_and]
    simp [Instr.keyThatStays, hsb]
   refine ⟨_, _, ?_, hk, hset _ rfl, by simpa [marksOf] using hmk2 he⟩
   simp [Instr.mapUpdate, run_underlying hu, hg, hck, hfd, h2', h3, hst, setObj_map _ hb]
 · rename_i hfv
   have hfd := run_find hf ht hfv w
   simp only [Array.toArray_toList] at hfd
   refine ⟨_, _, ?_, hk, hset _ rfl, by simpa [marksOf] using hmk2 he⟩
   simp [Instr.mapUpdate, run_underlying hu, hg, hck, hfd, setObj_map _ hb]
 · exact hk.elim
end
def evGrow (P : Program) (H : Hp) (st : TypeId) (s x : Value) (K : Value → Hp → Prop) : Prop :=
 match slI P st, s, x with
 | some (e, sz, by_), .slice none n c, .int .i64 m => (n = 0 ∧ c = 0) ∧ 0 ≤ m ∧ m.toNat * by_ ≤ two47 ∧ (m = 0 → K (.slice none 0 0) H) ∧
   (0 < m → ∀ b c', fresh b H → m.toNat ≤ c' → K (.slice (some ⟨b, 0, none⟩) m.toNat c') (⟨b, 0, .vec e sz c', []⟩ :: H))
 | some (e, sz, by_), .slice (some ⟨b, o, none⟩) n c, .int .i64 m => match zeroL P e, findE H b with
   | some z, some ⟨_, _, .vec e' sz' cap, xs⟩ => (o = 0 ∧ e' = e ∧ sz' = sz ∧ cap = c ∧ n * sz ≤ xs.length) ∧ 0 < m ∧ c < n + m.toNat ∧ (n + m.toNat) * by_ ≤ two47 ∧
     ∀ b' c', fresh b' H → n + m.toNat ≤ c' → K (.slice (some ⟨b', 0, none⟩) (n + m.toNat) c') (⟨b', 0, .vec e sz c', xs.take (n * sz) ++ repL m.toNat z⟩ :: H)
   | _, _ => False
 | _, _, _ => False
def capV (P : Program) (t : TypeId) (x : Value) : Option Value :=
 match P.underlying t, x with
 | some (.slice _), .slice _ _ c => some (.int .i64 c)
 | _, _ => none
theorem run_capV {P : Program} {w : World} {t : TypeId} {x v : Value} (tys : Array TypeId) (h : capV P t x = some v) (h0 : tys[0]? = some t) (ty : TypeId) : (Builtin.cap_ tys ty #[x]).run P w = .ok v w := by
 unfold capV at h
 split at h
 · rename_i hu; cases h
   simp [Builtin.cap_, h0, run_underlying hu, goInt]
 · cases h
section
variable {P : Program} {w0 w : World} {mu : Nat → Prop} {H : Hp}
theorem Sat.grow (h : Sat w0 mu H w) {st xt ty : TypeId} {s x : Value} {K : Value → Hp → Prop} {kk : IntKind} (hk : evGrow P H st s x K) (tys : Array TypeId) (h0 : tys[0]? = some st) (h1 : tys[1]? = some xt) (hx : P.underlying xt = some (.int kk)) :
  ∃ v H' w', (Builtin.append_ tys ty #[s, x]).run P w = .ok v w' ∧ K v H' ∧ Sat w0 mu H' w' ∧ marksOf H' = marksOf H := by
 unfold evGrow at hk
 split at hk
 case h_3 => exact hk.elim
 case h_2 =>
  rename_i e sz by_ b o n c m hsl
  obtain ⟨hu, i, z, hi, hz, hzs, hsi, hby, hs0, hb0⟩ := slI_eq hsl
  subst hsi; subst hby
  split at hk
  case h_2 => exact hk.elim
  rename_i zl blk off te ts cap xs hzl he
  have hzl' : zl = z.cells.toList := by
   unfold zeroL at hzl
   rw [hi] at hzl
   simpa [hz] using hzl.symm
  obtain ⟨⟨rfl, rfl, rfl, rfl, hxl⟩, hm0, hg, hbound, hK⟩ := hk
  obtain ⟨k, rfl⟩ : ∃ k : Nat, m = (k : Int) := ⟨m.toNat, by omega⟩
  rw [Int.toNat_natCast] at hg hbound hK
  have hkb : k * i.bytes ≤ two47 := Nat.le_trans (Nat.mul_le_mul_right _ (Nat.le_add_left _ _)) hbound
  have hk47 : k ≤ two47 := Nat.le_trans (by simpa using Nat.mul_le_mul_left k hb0) hkb
  have hnk47 : n + k ≤ two47 := Nat.le_trans (by simpa using Nat.mul_le_mul_left (n + k) hb0) hbound
  have hw : IntKind.i64.wrap (k : Int) = (k : Int) := IntWalk.i64_in _ (by unfold two47 at hk47; omega)
  have hbI : ((k : Int) * (i.bytes : Int)) = ((k * i.bytes : Nat) : Int) := by rw [Int.natCast_mul]
  have h48 := growslice_fits hg hbound
  have h48' : ¬ (281474976710656 < Builtin.nextslicecap (n + k) cap * i.bytes) := by omega
  have h63 : ¬ (IntKind.i64.max < (n : Int) + (k : Int)) := by show ¬ ((9223372036854775807 : Int) < (n : Int) + (k : Int)); unfold two47 at hnk47; omega
  have hks : ¬ (k * i.size = 0) := by
   intro h
   rcases Nat.mul_eq_zero.1 h with h | h <;> omega
  have hgc := grownCap_ge w (n + k) cap te
  have hn : ¬ (n + k ≤ cap) := by omega
  obtain ⟨hm, hb⟩ := findE_mem he
  dsimp only at hb
  subst hb
  have hh := h.ents _ hm
  unfold Ent.holds at hh
  dsimp only at hh
  obtain ⟨rfl, cs, fz, hcs, hfz, hsize, hle, hpre⟩ := hh
  have hcell : Ev.cellsAt H blk 0 (n * i.size) = some (xs.take (n * i.size)) := by
   simp only [Ev.cellsAt, he, Nat.le_refl, if_true, Nat.sub_self, subL]
   rw [if_pos (by omega)]
   simp
  have hxs : (Builtin.firstCells i.size n (.slice (some ⟨blk, 0, none⟩) n cap)).run P w.drew = .ok (xs.take (n * i.size)).toArray w.drew := by
   obtain ⟨c1, c2⟩ := h.drew'.cellsAt hcell
   simp only [Builtin.firstCells, loadCells]
   rw [run_loadCellsFrom _ 0 _ #[] c1 (by simpa using c2)]
   simp
  refine ⟨.slice (some ⟨w.heap.size, 0, none⟩) (n + k) (grownCap w (n + k) cap te), _, w.drew.alloc (.cells ((xs.take (n * i.size)).toArray ++ Builtin.zeroCells z.cells k ++ Builtin.zeroCells z.cells (grownCap w (n + k) cap te - (n + k))) te), ?_, hK w.heap.size _ h.fresh_size hgc, ?_, by simp [marksOf]⟩
  · simp [Builtin.append_, h0, h1, run_underlying hu, run_underlying hx, sizeOf, typeInfo, zeroValue, hi, hz, asInt, asIntOf, hw, h48', h63, hn, Question.forced, hxs, newRow, grownCap]
    rw [if_neg (by omega), if_neg (by rw [hbI]; unfold two47 at hkb; omega), if_neg (by unfold two47 at hnk47; omega), if_neg hks]
  · refine h.drew'.alloc rfl ?_
    unfold Ent.holds
    have htl : (xs.take (n * i.size)).length = n * i.size := by rw [List.length_take]; omega
    have hrl : (repL k zl).length = k * i.size := by rw [repL_len, hzl', Array.length_toList, hzs]
    refine ⟨rfl, _, (0, 0), World.alloc_heap_new _ _, .inl rfl, ?_, ?_, ?_⟩
    · rw [Array.size_append, Array.size_append, run_zeroCells_sz, run_zeroCells_sz, hzs, List.size_toArray, htl, ← Nat.add_mul, ← Nat.add_mul]; congr 1; omega
    · rw [List.length_append, htl, hrl, ← Nat.add_mul]; exact Nat.mul_le_mul_right _ hgc
    · intro j v hj
      have e1 : ((xs.take (n * i.size)).toArray ++ Builtin.zeroCells z.cells k).toList = xs.take (n * i.size) ++ repL k zl := by
       rw [Array.toList_append, zeroCells_rep, hzl']
      rw [Array.getElem?_append_left (by rw [← Array.length_toList, e1]; exact (List.getElem?_eq_some_iff.1 hj).1), ← Array.getElem?_toList, e1]
      exact hj
 rename_i e sz by_ n c m hsl
 obtain ⟨hu, i, z, hi, hz, hzs, hsi, hby, hs0, hb0⟩ := slI_eq hsl
 subst hsi; subst hby
 obtain ⟨⟨rfl, rfl⟩, hm0, hbound, hK0, hK1⟩ := hk
 obtain ⟨k, rfl⟩ : ∃ k : Nat, m = (k : Int) := ⟨m.toNat, by omega⟩
 rw [Int.toNat_natCast] at hbound hK1
 have hk47 : k ≤ two47 := Nat.le_trans (by simpa using Nat.mul_le_mul_left k hb0) hbound
 have hw : IntKind.i64.wrap (k : Int) = (k : Int) := IntWalk.i64_in _ (by unfold two47 at hk47; omega)
 have hbI : ((k : Int) * (i.bytes : Int)) = ((k * i.bytes : Nat) : Int) := by rw [Int.natCast_mul]
 have h48a : ¬ ((k : Int) * (i.bytes : Int) > 2 ^ 48) := by
  rw [hbI]; unfold two47 at hbound; omega
 rcases Nat.eq_zero_or_pos k with hk | hk
 · subst hk
   refine ⟨_, H, w, ?_, hK0 rfl, h, rfl⟩
   simp [Builtin.append_, h0, h1, run_underlying hu, run_underlying hx, sizeOf, typeInfo, hi, asInt, asIntOf, show IntKind.i64.wrap 0 = 0 from rfl]
 · have hg : 0 < 0 + k := by omega
   have h48 := growslice_fits hg (by rw [Nat.zero_add]; exact hbound)
   rw [Nat.zero_add] at h48
   have h48' : ¬ (281474976710656 < Builtin.nextslicecap k 0 * i.bytes) := by omega
   have h63 : ¬ (IntKind.i64.max < (k : Int)) := by show ¬ ((9223372036854775807 : Int) < (k : Int)); unfold two47 at hk47; omega
   have hkn : ¬ (k = 0) := by omega
   have hks : ¬ (k * i.size = 0) := by
    intro h
    rcases Nat.mul_eq_zero.1 h with h | h <;> omega
   have hgc := grownCap_ge w k 0 e
   refine ⟨.slice (some ⟨w.heap.size, 0, none⟩) k (grownCap w k 0 e), _, w.drew.alloc (.cells (Builtin.zeroCells z.cells k ++ Builtin.zeroCells z.cells (grownCap w k 0 e - k)) e), ?_, hK1 (by omega) w.heap.size _ h.fresh_size hgc, ?_, by simp [marksOf]⟩
   · simp [Builtin.append_, h0, h1, run_underlying hu, run_underlying hx, sizeOf, typeInfo, zeroValue, hi, hz, asInt, asIntOf, hw, h48', h63, hkn, Question.forced, Builtin.firstCells, newRow, grownCap]
     rw [if_neg (by omega), if_neg (by rw [hbI]; unfold two47 at hbound; omega), if_neg (by unfold two47 at hk47; omega), if_neg hks]
   · refine h.drew'.alloc rfl ?_
     unfold Ent.holds
     refine ⟨rfl, _, (0, 0), World.alloc_heap_new _ _, .inl rfl, ?_, Nat.zero_le _, ?_⟩
     · rw [Array.size_append, run_zeroCells_sz, run_zeroCells_sz, hzs, ← Nat.add_mul]; congr 1; omega
     · intro k v hk; simp at hk
end
end Go.Ev
