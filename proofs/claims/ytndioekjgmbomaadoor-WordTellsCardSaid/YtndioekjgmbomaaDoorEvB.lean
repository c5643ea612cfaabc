/- EvB: the operations that only compute or read: 'evQ', and that the model does what it says ('run_evQ'). -/
import Derived.Test.YtndioekjgmbomaaDoorEvA
set_option linter.unusedSimpArgs false
set_option linter.unusedVariables false
namespace Go.Ev

/-- offset, number of cells, aggregate? of a struct's field; none where the field has no cells -/
def fieldI (P : Program) (s : TypeId) (f : Nat) : Option (Nat × Nat × Bool) :=
  match P.underlying s with
  | some (.struct fs) => match fs[f]? with
    | some fd => match tyI P fd.type with
      | some (n, ag) => if n = 0 then none else some (fd.offset, n, ag)
      | none => none
    | none => none
  | _ => none

/-- of an array: its length; the number of cells of an element, and whether it is an aggregate -/
def elemI (P : Program) (t : TypeId) : Option (Option Nat × Nat × Bool) :=
  match P.underlying t with
  | some (.array n e) => (tyI P e).map fun x => (some n, x.1, x.2)
  | some (.slice e) => (tyI P e).map fun x => (none, x.1, x.2)
  | _ => none

def intI (P : Program) (t : TypeId) : Option IntKind :=
  match P.underlying t with
  | some (.int k) => some k
  | _ => none

def isStr (P : Program) (t : TypeId) : Bool :=
  match P.underlying t with
  | some .string => true
  | _ => false

def bitsI (op : BinOp) (k : IntKind) (x y : Int) : Int :=
  let a := BitVec.ofInt k.bits x
  let b := BitVec.ofInt k.bits y
  k.wrap (match op with | .and => (a &&& b).toNat | .or => (a ||| b).toNat | .xor => (a ^^^ b).toNat | _ => (a &&& ~~~b).toNat)
def shlI (k : IntKind) (x y : Int) : Int := k.wrap (x * 2 ^ (min y.toNat k.bits))
def shrI (k : IntKind) (x y : Int) : Int := x.fdiv (2 ^ (min y.toNat k.bits))

def catB (x y : ByteArray) : Option Value := if ((x.size + y.size : Nat) : Int) > IntKind.i64.max then none else some (.string (x ++ y))

def binV (op : BinOp) (x y : Value) : Option Value :=
  match op, x, y with
  | .add, .int k a, .int k' b => if k = k' then some (.int k (k.wrap (a + b))) else none
  | .sub, .int k a, .int k' b => if k = k' then some (.int k (k.wrap (a - b))) else none
  | .mul, .int k a, .int k' b => if k = k' then some (.int k (k.wrap (a * b))) else none
  | .quo, .int k a, .int k' b => if k = k' then (if b = 0 then none else some (.int k (k.wrap (a.tdiv b)))) else none
  | .rem, .int k a, .int k' b => if k = k' then (if b = 0 then none else some (.int k (a.tmod b))) else none
  | .and, .int k a, .int k' b => if k = k' then some (.int k (bitsI .and k a b)) else none
  | .or, .int k a, .int k' b => if k = k' then some (.int k (bitsI .or k a b)) else none
  | .xor, .int k a, .int k' b => if k = k' then some (.int k (bitsI .xor k a b)) else none
  | .andNot, .int k a, .int k' b => if k = k' then some (.int k (bitsI .andNot k a b)) else none
  | .shl, .int k a, .int _ b => if b < 0 then none else some (.int k (shlI k a b))
  | .shr, .int k a, .int _ b => if b < 0 then none else some (.int k (shrI k a b))
  | .eql, .int k a, .int k' b => if k = k' then some (.bool (a == b)) else none
  | .neq, .int k a, .int k' b => if k = k' then some (.bool (a != b)) else none
  | .lss, .int k a, .int k' b => if k = k' then some (.bool (decide (a < b))) else none
  | .leq, .int k a, .int k' b => if k = k' then some (.bool (decide (a ≤ b))) else none
  | .gtr, .int k a, .int k' b => if k = k' then some (.bool (decide (b < a))) else none
  | .geq, .int k a, .int k' b => if k = k' then some (.bool (decide (b ≤ a))) else none
  | .add, .string a, .string b => catB a b
  | .eql, .string a, .string b => some (.bool (a.toList == b.toList))
  | .neq, .string a, .string b => some (.bool (!(a.toList == b.toList)))
  | .lss, .string a, .string b => some (.bool (Op.bytesLess a.toList b.toList))
  | .leq, .string a, .string b => some (.bool (Op.bytesLess a.toList b.toList || a.toList == b.toList))
  | .gtr, .string a, .string b => some (.bool (!(Op.bytesLess a.toList b.toList || a.toList == b.toList)))
  | .geq, .string a, .string b => some (.bool (!Op.bytesLess a.toList b.toList))
  | _, _, _ => none

theorem run_eqGuard_plain {P : Program} {w : World} (op : BinOp) (t : TypeId) (x y : Operand) {a b : Value} (h1 : a ≠ .nilIface) (h2 : ∀ c, a ≠ .agg c) :
    (eqGuard op t x y a b).run P w = .ok () w := by
  unfold eqGuard
  split
  case h_3 => rfl
  all_goals
    simp only [Bool.not_true, Bool.false_eq_true, if_false]
    split
    · exact absurd rfl h1
    · exact absurd rfl (h2 _)
    · rfl

theorem run_binV {P : Program} {w : World} {op : BinOp} (t : TypeId) {x y v : Value} (h : binV op x y = some v) : (binOp op t x y).run P w = .ok v w := by
  unfold binV at h
  split at h
  all_goals first
    | (split at h
       · rename_i hk; subst hk; cases h; simp [binOp, Op.intArith, Op.intBits, Op.intCmp, bitsI]
       · cases h)
    | skip
  · split at h
    · rename_i hk
      split at h
      · cases h
      · rename_i hb; subst hk; cases h; simp [binOp, Op.intDiv, hb]
    · cases h
  · split at h
    · rename_i hk
      split at h
      · cases h
      · rename_i hb; subst hk; cases h; simp [binOp, Op.intDiv, hb]
    · cases h
  · split at h
    · cases h
    · rename_i hb; cases h; simp [binOp, Op.shift, hb, shlI]
  · split at h
    · cases h
    · rename_i hb; cases h; simp [binOp, Op.shift, hb, shrI]
  · unfold catB at h
    split at h
    · cases h
    · rename_i hb; cases h; simp only [binOp, Op.stringOp, hb, if_false]; rfl
  all_goals first
    | (cases h; rfl)
    | (cases h; simp [binOp, Op.stringOp]; done)
    | cases h

def unV (op : UnOp) (x : Value) : Option Value :=
  match op, x with
  | .neg, .int k n => some (.int k (k.wrap (0 - n)))
  | .xor, .int k n => some (.int k (bitsI .xor k (if k.signed then -1 else k.max) n))
  | .not, .bool b => some (.bool !b)
  | _, _ => none

theorem run_unV {P : Program} {w : World} {op : UnOp} {x v : Value} (h : unV op x = some v) : (Op.unary op x).run P w = .ok v w := by
  unfold unV at h
  split at h
  · cases h; rfl
  · cases h; rfl
  · cases h; rfl
  · cases h

def convV (P : Program) (s d : TypeId) (x : Value) : Option Value :=
  match intI P s, intI P d, x with
  | some _, some k, .int _ n => some (.int k (k.wrap n))
  | _, _, .string b => if isStr P s && isStr P d then some (.string b) else none
  | _, _, _ => none

theorem intI_eq {P : Program} {t : TypeId} {k : IntKind} (h : intI P t = some k) : P.underlying t = some (.int k) := by
  unfold intI at h
  split at h
  · cases h; assumption
  · cases h
theorem isStr_eq {P : Program} {t : TypeId} (h : isStr P t = true) : P.underlying t = some .string := by
  unfold isStr at h
  split at h
  · assumption
  · cases h

theorem run_convV {P : Program} {w : World} {s d : TypeId} {x v : Value} (h : convV P s d x = some v) : (convert s d x).run P w = .ok v w := by
  unfold convV at h
  split at h
  · rename_i hs hd
    cases h
    simp [convert, run_underlying (intI_eq hs), run_underlying (intI_eq hd), Conv.intToInt]
  · split at h
    · rename_i hb
      simp only [Bool.and_eq_true] at hb
      cases h
      simp [convert, run_underlying (isStr_eq hb.1), run_underlying (isStr_eq hb.2)]
    · cases h
  · cases h

def fieldAddrV (P : Program) (s : TypeId) (x : Value) (f : Nat) : Option Value :=
  match x with
  | .pointer (some ⟨b, o, none⟩) => (fieldI P s f).bind fun i => some (.pointer (some ⟨b, o + i.1, none⟩))
  | _ => none

theorem add_mk (b o n : Nat) : (⟨b, o, none⟩ : Addr).add n = ⟨b, o + n, none⟩ := by
  unfold Addr.add; split
  · subst n; rfl
  · rfl

theorem fieldI_eq {P : Program} {s : TypeId} {f : Nat} {i : Nat × Nat × Bool} (h : fieldI P s f = some i) :
    ∃ fs fd, P.underlying s = some (.struct fs) ∧ fs[f]? = some fd ∧ tyI P fd.type = some (i.2.1, i.2.2) ∧ i.2.1 ≠ 0 ∧ i.1 = fd.offset := by
  unfold fieldI at h
  split at h
  case h_2 => cases h
  rename_i fs hs
  split at h
  case h_2 => cases h
  rename_i fd hf
  split at h
  case h_2 => cases h
  rename_i n ag ht
  split at h
  · cases h
  · cases h; exact ⟨fs, fd, hs, hf, ht, by assumption, rfl⟩

theorem run_fieldAddrV {P : Program} {w : World} {s : TypeId} {x v : Value} {f : Nat} (h : fieldAddrV P s x f = some v) : (Instr.fieldAt s x f).run P w = .ok v w := by
  unfold fieldAddrV at h
  split at h
  case h_2 => cases h
  rename_i b o
  cases hi : fieldI P s f with
  | none => rw [hi] at h; simp at h
  | some i =>
    rw [hi] at h
    simp only [Option.bind_some, Option.some.injEq] at h
    subst h
    obtain ⟨fs, fd, hs, hf, ht, h0, ho⟩ := fieldI_eq hi
    obtain ⟨_, hsz⟩ := isAgg_of (w := w) ht
    simp [Instr.fieldAt, run_underlying hs, hf, Instr.sureAddr, fieldPlace, hsz, h0, add_mk, ho]

def partL (ag : Bool) (cs : Array Value) (o n : Nat) : Option Value :=
  if ag then some (.agg (cs.extract o (o + n))) else cs[o]?

def fieldV (P : Program) (s : TypeId) (x : Value) (f : Nat) : Option Value :=
  match x with
  | .agg cs => (fieldI P s f).bind fun i => partL i.2.2 cs i.1 i.2.1
  | _ => none

theorem run_part {P : Program} {w : World} {t : TypeId} {n : Nat} {ag : Bool} {cs : Array Value} {o : Nat} {v : Value} (ht : tyI P t = some (n, ag)) (h : partL ag cs o n = some v) :
    (part t cs o).run P w = .ok v w := by
  obtain ⟨ha, hs⟩ := isAgg_of (w := w) ht
  unfold part
  simp only [Sem.run_bind, ha, Result.andThen_ok]
  cases ag with
  | true => simp only [partL, if_true, Option.some.injEq] at h; subst h; simp [hs]
  | false => simp only [partL, Bool.false_eq_true, if_false] at h; simp [h]

theorem run_fieldV {P : Program} {w : World} {s : TypeId} {x v : Value} {f : Nat} (h : fieldV P s x f = some v) : (Instr.field s x f).run P w = .ok v w := by
  unfold fieldV at h
  split at h
  case h_2 => cases h
  rename_i cs
  cases hi : fieldI P s f with
  | none => rw [hi] at h; simp at h
  | some i =>
    rw [hi] at h
    simp only [Option.bind_some] at h
    obtain ⟨fs, fd, hs, hf, ht, h0, ho⟩ := fieldI_eq hi
    rw [ho] at h
    have := run_part (w := w) ht h
    simp [Instr.field, run_underlying hs, hf, asAgg, this]

def idxV (P : Program) (t : TypeId) (x i : Value) : Option Value :=
  match elemI P t, x, i with
  | some (some n, s, _), .pointer (some ⟨b, o, none⟩), .int _ i => if 0 ≤ i ∧ i < (n : Int) then some (.pointer (some ⟨b, o + i.toNat * s, none⟩)) else none
  | some (none, s, _), .slice (some ⟨b, o, none⟩) n _, .int _ i => if 0 ≤ i ∧ i < (n : Int) then some (.pointer (some ⟨b, o + i.toNat * s, none⟩)) else none
  | _, _, _ => none

theorem elemI_arr {P : Program} {t : TypeId} {n s : Nat} {ag : Bool} (h : elemI P t = some (some n, s, ag)) : ∃ e, P.underlying t = some (.array n e) ∧ tyI P e = some (s, ag) := by
  unfold elemI at h
  split at h
  · rename_i n' e hu
    cases ht : tyI P e with
    | none => rw [ht] at h; cases h
    | some x => rw [ht] at h; simp only [Option.map_some, Option.some.injEq, Prod.mk.injEq] at h; obtain ⟨rfl, rfl, rfl⟩ := h; exact ⟨e, hu, by simp [ht]⟩
  · rename_i e hu
    cases ht : tyI P e with
    | none => rw [ht] at h; cases h
    | some x => rw [ht] at h; simp at h
  · cases h
theorem elemI_sl {P : Program} {t : TypeId} {s : Nat} {ag : Bool} (h : elemI P t = some (none, s, ag)) : ∃ e, P.underlying t = some (.slice e) ∧ tyI P e = some (s, ag) := by
  unfold elemI at h
  split at h
  · rename_i n' e hu
    cases ht : tyI P e with
    | none => rw [ht] at h; cases h
    | some x => rw [ht] at h; simp at h
  · rename_i e hu
    cases ht : tyI P e with
    | none => rw [ht] at h; cases h
    | some x => rw [ht] at h; simp only [Option.map_some, Option.some.injEq, Prod.mk.injEq] at h; obtain ⟨_, rfl, rfl⟩ := h; exact ⟨e, hu, by simp [ht]⟩
  · cases h

theorem run_idxV {P : Program} {w : World} {t : TypeId} {x i v : Value} (h : idxV P t x i = some v) : (Instr.indexAt t x i).run P w = .ok v w := by
  unfold idxV at h
  split at h
  · rename_i n s ag b o k i he
    obtain ⟨e, hu, ht⟩ := elemI_arr he
    obtain ⟨_, hs⟩ := isAgg_of (w := w) ht
    split at h
    · rename_i hb; cases h
      simp [Instr.indexAt, asIntOf, run_underlying hu, Instr.sureAddr, hb, hs, add_mk]
    · cases h
  · rename_i s ag b o n c k i he
    obtain ⟨e, hu, ht⟩ := elemI_sl he
    obtain ⟨_, hs⟩ := isAgg_of (w := w) ht
    split at h
    · rename_i hb; cases h
      simp [Instr.indexAt, asIntOf, run_underlying hu, hb, hs, add_mk]
    · cases h
  · cases h

def indexV (P : Program) (t : TypeId) (x i : Value) : Option Value :=
  match x, i with
  | .agg cs, .int _ i => match elemI P t with
    | some (some n, s, ag) => if 0 ≤ i ∧ i < (n : Int) then partL ag cs (i.toNat * s) s else none
    | _ => none
  | .string b, .int _ i => if isStr P t then (if 0 ≤ i ∧ i < (b.size : Int) then (b.data[i.toNat]?).map (fun c => .int .u8 c.toNat) else none) else none
  | _, _ => none

theorem run_indexV {P : Program} {w : World} {t : TypeId} {x i v : Value} (h : indexV P t x i = some v) : (Instr.index t x i).run P w = .ok v w := by
  unfold indexV at h
  split at h
  · rename_i cs k i
    split at h
    · rename_i n s ag he
      obtain ⟨e, hu, ht⟩ := elemI_arr he
      obtain ⟨_, hs⟩ := isAgg_of (w := w) ht
      split at h
      · rename_i hb
        have := run_part (w := w) ht h
        simp [Instr.index, asIntOf, run_underlying hu, hb, hs, this]
      · cases h
    · cases h
  · rename_i b k i
    split at h
    · rename_i hst
      split at h
      · rename_i hb
        cases hd : b.data[i.toNat]? with
        | none => rw [hd] at h; cases h
        | some c =>
          rw [hd] at h; cases h
          have hlt : i.toNat < b.size := by have := hb.2; omega
          have : b[i.toNat]? = some c := by
            rw [getElem?_pos b i.toNat hlt]
            obtain ⟨h1, h2⟩ := Array.getElem?_eq_some_iff.1 hd
            rw [← h2]; rfl
          simp [Instr.index, asIntOf, run_underlying (isStr_eq hst), hb.1, this]
      · cases h
    · cases h
  · cases h
end Go.Ev
