/- EvA: what is known of a frame and of memory while a function runs ('Tm', 'Hp'), what worlds it describes ('TRel', 'Sat'), and an evaluator of operations ('evQ': those that only compute or read). -/
import Derived.WalkKit
import Derived.CallsIn
import Derived.AtR
import Derived.RangeFuncNested
import Derived.RangeFuncLeaves
import Derived.RangeFuncBound
import Derived.RangeFuncCalls
import Derived.TacticsInMore
set_option linter.unusedSimpArgs false
set_option linter.unusedVariables false
namespace Go.Ev

abbrev Tm := List (Nat × Value)
def getT : Tm → Nat → Option Value
  | [], _ => none
  | (k, v) :: r, i => if i = k then some v else getT r i

inductive Kind where
  | ro
  | cel (e : TypeId)
  | vec (e : TypeId) (s cap : Nat)
  | obj (o : Obj)

structure Ent where
  blk : Nat
  off : Nat
  kind : Kind
  cells : List Value

abbrev Hp := List Ent

def Ent.wr (e : Ent) : Prop := match e.kind with | .ro => False | _ => True
def Ent.holds (w : World) (e : Ent) : Prop :=
  match e.kind with
  | .ro => e.blk < w.heap.size ∧ ∀ k v, e.cells[k]? = some v → w.cell? ⟨e.blk, e.off + k, none⟩ = some v
  | .cel t => e.off = 0 ∧ w.heap[e.blk]? = some (.cells e.cells.toArray t (0, 0))
  | .vec t s cap => e.off = 0 ∧ ∃ cs : Array Value, w.heap[e.blk]? = some (.cells cs t (0, 0)) ∧ cs.size = cap * s ∧ e.cells.length ≤ cap * s ∧ ∀ (k : Nat) (v : Value), e.cells[k]? = some v → cs[k]? = some v
  | .obj o => e.cells = [] ∧ w.heap[e.blk]? = some o ∧ o.isCells = false

/-- the marks that ranges over functions leave among a frame's deferred calls -/
def marksOf : Hp → List Nat
  | [] => []
  | e :: r => match e.kind with
    | .obj (.deferred (some [])) => e.blk :: marksOf r
    | _ => marksOf r
def defersOf (H : Hp) : List Deferred := (marksOf H).map fun r => { target := .collected r, args := #[] }

structure Sat (w0 : World) (mu : Nat → Prop) (H : Hp) (w : World) : Prop where
  os : w.os = w0.os
  tape : w.tape = w0.tape
  output : w.output = w0.output
  size : w0.heap.size ≤ w.heap.size
  old : ∀ b, b < w0.heap.size → ¬ mu b → w.heap[b]? = w0.heap[b]?
  ents : ∀ e ∈ H, e.holds w
  own : ∀ e ∈ H, e.wr → mu e.blk ∨ w0.heap.size ≤ e.blk
  apart : H.Pairwise fun e f => (e.wr ∨ f.wr) → e.blk ≠ f.blk

structure TRel (n : Nat) (T : Tm) (a : Act) : Prop where
  size : a.tmps.size = n
  get : ∀ k v, getT T k = some v → a.tmps[k]? = some v

def opd (T : Tm) : Operand → Option Value
  | .tmp t => getT T t
  | .const v => some v
  | .global g => some (.pointer (some ⟨g, 0, none⟩))
  | .func f => some (.func (.func f) #[] #[])

theorem opd_eval {n : Nat} {T : Tm} {a : Act} (h : TRel n T a) {x : Operand} {v : Value} (hx : opd T x = some v) : a.eval x = v := by
  cases x with
  | tmp t => simp only [opd] at hx; simp [Act.eval, Array.getD_eq_getD_getElem?, h.get t v hx]
  | const u => simpa [opd, Act.eval] using hx
  | global g => simpa [opd, Act.eval] using hx
  | func f => simpa [opd, Act.eval] using hx

def putT (n : Nat) (T : Tm) (d : Option Nat) (v : Value) : Tm :=
  match d with
  | some k => if k < n then (k, v) :: T else T
  | none => T

theorem TRel.put {n : Nat} {T : Tm} {a : Act} (h : TRel n T a) (d : Option Nat) (v : Value) : TRel n (putT n T d v) (a.put d v) := by
  cases d with
  | none => exact h
  | some k =>
    simp only [putT, Act.put]
    by_cases hk : k < n
    · rw [if_pos hk]
      refine ⟨by simpa using h.size, fun i u hi => ?_⟩
      simp only [getT] at hi
      by_cases hik : i = k
      · subst hik; simp at hi; subst hi
        simp [h.size, hk]
      · rw [if_neg hik] at hi
        rw [Array.getElem?_setIfInBounds_ne (Ne.symm hik)]
        exact h.get i u hi
    · rw [if_neg hk]
      refine ⟨by simpa using h.size, fun i u hi => ?_⟩
      have := h.get i u hi
      have hlt : i < a.tmps.size := (Array.getElem?_eq_some_iff.1 this).1
      have h2 := h.size
      have hne : k ≠ i := by omega
      rw [Array.getElem?_setIfInBounds_ne hne]
      exact this

/-! ### types -/
/-- the number of cells, and whether a value of the type is an aggregate -/
def tyI (P : Program) (t : TypeId) : Option (Nat × Bool) :=
  match P.info? t, P.underlying t with
  | some i, some (.struct _) => some (i.size, true)
  | some i, some (.array _ _) => some (i.size, true)
  | some i, some _ => some (i.size, false)
  | _, _ => none

/-- the cells of the type's zero value -/
def zeroL (P : Program) (t : TypeId) : Option (List Value) :=
  match P.info? t with
  | some i => i.zero.map (·.cells.toList)
  | none => none

/-! ### memory -/
def findE : Hp → Nat → Option Ent
  | [], _ => none
  | e :: r, b => if b = e.blk then some e else findE r b

def subL (l : List Value) (k s : Nat) : Option (List Value) :=
  if k + s ≤ l.length then some ((l.drop k).take s) else none

/-- the cells at a place -/
def cellsAt (H : Hp) (b o s : Nat) : Option (List Value) :=
  match findE H b with
  | some e => if e.off ≤ o then subL e.cells (o - e.off) s else none
  | none => none

theorem findE_mem {H : Hp} {b : Nat} {e : Ent} (h : findE H b = some e) : e ∈ H ∧ e.blk = b := by
  induction H with
  | nil => simp [findE] at h
  | cons x r ih =>
    simp only [findE] at h
    by_cases hx : b = x.blk
    · rw [if_pos hx] at h; cases h; exact ⟨by simp, hx.symm⟩
    · rw [if_neg hx] at h; have := ih h; exact ⟨by simp [this.1], this.2⟩

theorem Ent.cell {w : World} {e : Ent} (h : e.holds w) {k : Nat} {v : Value} (hk : e.cells[k]? = some v) : w.cell? ⟨e.blk, e.off + k, none⟩ = some v := by
  unfold Ent.holds at h
  split at h
  · exact h.2 k v hk
  · obtain ⟨h0, hb⟩ := h; simp [World.cell?, hb, h0, hk]
  · obtain ⟨h0, cs, hb, _, _, hp⟩ := h; simp [World.cell?, hb, h0, hp k v hk]
  · rw [h.1] at hk; cases hk

theorem Ent.lt {w : World} {e : Ent} (h : e.holds w) : e.blk < w.heap.size := by
  unfold Ent.holds at h
  split at h
  · exact h.1
  · exact (Array.getElem?_eq_some_iff.1 h.2).1
  · obtain ⟨_, cs, hb, _⟩ := h; exact (Array.getElem?_eq_some_iff.1 hb).1
  · exact (Array.getElem?_eq_some_iff.1 h.2.1).1

theorem subL_get {l r : List Value} {k s : Nat} (h : subL l k s = some r) : r.length = s ∧ ∀ i, i < s → r[i]? = l[k + i]? := by
  unfold subL at h
  split at h
  · cases h
    refine ⟨by simp; omega, fun i hi => ?_⟩
    simp [hi]
  · cases h

theorem run_loadCellsFrom {P : Program} {w : World} {b o : Nat} : ∀ (s i : Nat) (l : List Value) (acc : Array Value), l.length = s →
    (∀ j v, l[j]? = some v → w.cell? ⟨b, o + i + j, none⟩ = some v) →
    (loadCellsFrom ⟨b, o, none⟩ i s acc).run P w = .ok (acc ++ l.toArray) w
  | 0, i, l, acc, hl, _ => by
    have : l = [] := List.eq_nil_of_length_eq_zero hl
    subst this; simp [loadCellsFrom]
  | s + 1, i, l, acc, hl, hc => by
    cases l with
    | nil => simp at hl
    | cons x l =>
      have h0 : w.cell? ((⟨b, o, none⟩ : Addr).add i) = some x := by
        have h := hc 0 x rfl
        unfold Addr.add
        split
        · subst i; simpa using h
        · simpa using h
      rw [loadCellsFrom]
      simp only [Sem.run_bind, run_load, h0]
      simp only [Result.andThen_ok]
      rw [run_loadCellsFrom s (i + 1) l (acc.push x) (by simpa using hl) (fun j v hj => by have := hc (j + 1) v (by simpa using hj); rw [show o + (i + 1) + j = o + i + (j + 1) by omega]; exact this)]
      simp

theorem Sat.cellsAt {w0 w : World} {mu : Nat → Prop} {H : Hp} (h : Sat w0 mu H w) {b o s : Nat} {l : List Value} (hc : cellsAt H b o s = some l) :
    l.length = s ∧ ∀ j v, l[j]? = some v → w.cell? ⟨b, o + j, none⟩ = some v := by
  unfold Ev.cellsAt at hc
  split at hc
  · rename_i e he
    obtain ⟨hm, rfl⟩ := findE_mem he
    split at hc
    · rename_i hle
      obtain ⟨h1, h2⟩ := subL_get hc
      refine ⟨h1, fun j v hj => ?_⟩
      have hjs : j < s := by have := (List.getElem?_eq_some_iff.1 hj).1; omega
      have := Ent.cell (h.ents e hm) (k := o - e.off + j) (v := v) (by rw [← h2 j hjs]; exact hj)
      rw [show e.off + (o - e.off + j) = o + j by omega] at this
      exact this
    · cases hc
  · cases hc

/-- a value out of cells -/
def ofCells (agg : Bool) (l : List Value) : Option Value :=
  match agg, l with
  | true, l => some (.agg l.toArray)
  | false, [v] => some v
  | _, _ => none

def loadV (P : Program) (H : Hp) (t : TypeId) (p : Value) : Option Value :=
  match p with
  | .pointer (some ⟨b, o, none⟩) =>
    match tyI P t with
    | some (s, ag) => (cellsAt H b o s).bind (ofCells ag)
    | none => none
  | _ => none

theorem isAgg_of {P : Program} {w : World} {t : TypeId} {s : Nat} {ag : Bool} (h : tyI P t = some (s, ag)) :
    (isAgg t).run P w = .ok ag w ∧ (sizeOf t).run P w = .ok s w := by
  unfold tyI at h
  split at h <;> simp at h
  all_goals
    rename_i i hi hu
    obtain ⟨rfl, rfl⟩ := h
    refine ⟨?_, by simp [sizeOf, typeInfo, hi]⟩
    simp only [isAgg, Sem.run_bind, run_underlying hu, Result.andThen_ok]
  · rfl
  · rfl
  · rfl

theorem run_loadV {P : Program} {w0 w : World} {mu : Nat → Prop} {H : Hp} (h : Sat w0 mu H w) {t : TypeId} {p v : Value} (hv : loadV P H t p = some v) :
    (Instr.loadAt t p).run P w = .ok v w := by
  unfold loadV at hv
  split at hv
  case h_2 => cases hv
  rename_i b o
  split at hv
  case h_2 => cases hv
  rename_i s ag hty
  obtain ⟨ha, hs⟩ := isAgg_of (w := w) hty
  cases hc : cellsAt H b o s with
  | none => simp [hc] at hv
  | some l =>
    simp only [hc, Option.bind_some] at hv
    obtain ⟨h1, h2⟩ := h.cellsAt hc
    unfold Instr.loadAt Instr.sureAddr loadVar
    cases ag with
    | true =>
      simp only [ofCells, Option.some.injEq] at hv
      subst hv
      simp only [Sem.run_bind, Sem.run_pure, Result.andThen_ok, ha, if_true, hs, loadCells]
      rw [run_loadCellsFrom s 0 l #[] h1 (by simpa using h2)]
      simp
    | false =>
      match l, h1, h2, hv with
      | [x], h1, h2, hv =>
        simp only [ofCells, Option.some.injEq] at hv
        subst hv
        have := h2 0 x rfl
        simp only [Nat.add_zero] at this
        simp [ha, this]
      | [], _, _, hv => simp [ofCells] at hv
      | _ :: _ :: _, _, _, hv => simp [ofCells] at hv
end Go.Ev
