/- EvD: slices, composite values, len, min and max; then 'evQ', all operations that only compute or read. -/
import Derived.Test.YtndioekjgmbomaaDoorEvC
import Derived.Lib.UnsafeStr
set_option linter.unusedSimpArgs false
set_option linter.unusedVariables false
namespace Go.Ev

def bnd (x : Value) (y : Nat) : Option Nat :=
  match x with
  | .int _ i => if 0 ≤ i ∧ i ≤ (y : Int) then some i.toNat else none
  | _ => none

def hiB (hi : Option Value) (len cap : Nat) : Option Nat := match hi with | some v => bnd v cap | none => some len
def loB (lo : Option Value) (h : Nat) : Option Nat := match lo with | some v => bnd v h | none => some 0

def slAddr (a : Option Addr) (c l s : Nat) : Option Addr :=
  if c = l then a else match a with
    | some ⟨b, o, none⟩ => some ⟨b, o + l * s, none⟩
    | a => a.map (·.add (l * s))

def sliceV (P : Program) (t : TypeId) (x : Value) (lo hi mx : Option Value) : Option Value :=
  match mx, x with
  | none, .string b => if isStr P t then (hiB hi b.size b.size).bind fun h => (loB lo h).bind fun l => some (.string (b.extract l h)) else none
  | none, .slice a n c => match elemI P t with
    | some (none, s, _) => (hiB hi n c).bind fun h => (loB lo h).bind fun l => some (.slice (slAddr a c l s) (h - l) (c - l))
    | _ => none
  | none, .pointer (some ⟨b, o, none⟩) => match elemI P t with
    | some (some n, s, _) => (hiB hi n n).bind fun h => (loB lo h).bind fun l => some (.slice (slAddr (some ⟨b, o, none⟩) n l s) (h - l) (n - l))
    | _ => none
  | _, _ => none

theorem run_bnd {P : Program} {w : World} {x : Value} {y n : Nat} (c : BoundsCode) (h : bnd x y = some n) : (Instr.sliceBound x y c).run P w = .ok n w := by
  unfold bnd at h
  split at h
  · split at h
    · rename_i hb; cases h; simp [Instr.sliceBound, asIntOf, hb]
    · cases h
  · cases h

theorem run_bounds {P : Program} {w : World} {isS : Bool} {len cap h l : Nat} {lo hi : Option Value} (hh : hiB hi len cap = some h) (hl : loB lo h = some l) :
    (Instr.sliceBounds isS len cap lo hi none).run P w = .ok (l, h, cap) w := by
  unfold Instr.sliceBounds
  cases hi with
  | none =>
    simp only [hiB, Option.some.injEq] at hh; subst hh
    cases lo with
    | none => simp only [loB, Option.some.injEq] at hl; subst hl; simp
    | some v => simp only [loB] at hl; simp [run_bnd _ hl]
  | some u =>
    simp only [hiB] at hh
    cases lo with
    | none => simp only [loB, Option.some.injEq] at hl; subst hl; simp [run_bnd _ hh]
    | some v => simp only [loB] at hl; simp [run_bnd _ hl, run_bnd _ hh]

theorem slAddr_eq (a : Option Addr) (c l s : Nat) : slAddr a c l s = if c = l then a else a.map (·.add (l * s)) := by
  unfold slAddr
  split
  · rfl
  · split
    · simp [add_mk]
    · rfl

theorem run_sliceV {P : Program} {w : World} {t : TypeId} {x v : Value} {lo hi mx : Option Value} (h : sliceV P t x lo hi mx = some v) : (Instr.sliceAt t x lo hi mx).run P w = .ok v w := by
  unfold sliceV at h
  split at h
  · rename_i b
    split at h
    case isFalse => cases h
    rename_i hs
    cases hh : hiB hi b.size b.size with
    | none => simp [hh] at h
    | some h' =>
      simp only [hh, Option.bind_some] at h
      cases hl : loB lo h' with
      | none => simp [hl] at h
      | some l' =>
        simp only [hl, Option.bind_some, Option.some.injEq] at h
        subst h
        simp [Instr.sliceAt, run_underlying (isStr_eq hs), Instr.slice, run_bounds hh hl]
  · rename_i a n c
    split at h
    case h_2 => cases h
    rename_i s ag he
    obtain ⟨e, hu, ht⟩ := elemI_sl he
    obtain ⟨_, hsz⟩ := isAgg_of (w := w) ht
    cases hh : hiB hi n c with
    | none => simp [hh] at h
    | some h' =>
      simp only [hh, Option.bind_some] at h
      cases hl : loB lo h' with
      | none => simp [hl] at h
      | some l' =>
        simp only [hl, Option.bind_some, Option.some.injEq] at h
        subst h
        simp [Instr.sliceAt, run_underlying hu, Instr.slice, run_bounds hh hl, hsz, slAddr_eq]
  · rename_i b o
    split at h
    case h_2 => cases h
    rename_i n s ag he
    obtain ⟨e, hu, ht⟩ := elemI_arr he
    obtain ⟨_, hsz⟩ := isAgg_of (w := w) ht
    cases hh : hiB hi n n with
    | none => simp [hh] at h
    | some h' =>
      simp only [hh, Option.bind_some] at h
      cases hl : loB lo h' with
      | none => simp [hl] at h
      | some l' =>
        simp only [hl, Option.bind_some, Option.some.injEq] at h
        subst h
        simp only [Instr.sliceAt, Sem.run_bind, run_underlying hu, Result.andThen_ok, Instr.sureAddr, Sem.run_pure, run_bounds hh hl, hsz, slAddr_eq]
        split <;> rfl
  · cases h

def setSeg (l : List Value) (o : Nat) (vs : List Value) : List Value := l.take o ++ vs ++ l.drop (o + vs.length)

theorem foldl_setIf (o : Nat) : ∀ (vs : List Value) (k : Nat) (l : List Value), o + k + vs.length ≤ l.length →
    (vs.zipIdx k).foldl (fun cs (x : Value × Nat) => cs.setIfInBounds (o + x.2) x.1) l.toArray = (l.take (o + k) ++ vs ++ l.drop (o + k + vs.length)).toArray
  | [], k, l, h => by simp
  | v :: vs, k, l, h => by
    have hlt : o + k < l.length := by simp at h; omega
    simp only [List.zipIdx_cons, List.foldl_cons, List.setIfInBounds_toArray]
    rw [foldl_setIf o vs (k + 1) (l.set (o + k) v) (by simp at h ⊢; omega)]
    congr 1
    rw [show o + (k + 1) = o + k + 1 by omega]
    rw [List.take_succ_eq_append_getElem (by simpa using hlt)]
    simp only [List.getElem_set_self, List.length_cons, List.append_assoc, List.cons_append, List.nil_append]
    rw [List.take_set_of_le (Nat.le_refl _), List.drop_set_of_lt (by omega)]
    rw [show o + k + 1 + vs.length = o + k + (vs.length + 1) by omega]

def fillL (place : Nat → Option (Nat × Nat)) (l : List Value) : List (Nat × Value) → Option (List Value)
  | [] => some l
  | (i, v) :: r => (place i).bind fun x => if v.cells.toList.length = x.2 ∧ x.1 + x.2 ≤ l.length then fillL place (setSeg l x.1 v.cells.toList) r else none

theorem fillL_eq {place place' : Nat → Option (Nat × Nat)} (hp : ∀ i x, place i = some x → place' i = some x) : ∀ (ps : List (Nat × Value)) (l r : List Value), fillL place l ps = some r → Instr.fill place' l.toArray ps = some r.toArray
  | [], l, r, h => by simp only [fillL, Option.some.injEq] at h; subst h; rfl
  | (i, v) :: ps, l, r, h => by
    simp only [fillL] at h
    cases hx : place i with
    | none => simp [hx] at h
    | some x =>
      obtain ⟨o, s⟩ := x
      simp only [hx, Option.bind_some] at h
      split at h
      case isFalse => cases h
      rename_i hb
      simp only [Instr.fill, hp i _ hx]
      have hsz : v.cells.size = s := by simpa using hb.1
      rw [if_neg (by simp [hsz]; simpa using hb.2)]
      have := foldl_setIf o v.cells.toList 0 l (by simp [hsz]; simpa using hb.2)
      have h2 : v.cells.zipIdx.foldl (fun cs (x : Value × Nat) => cs.setIfInBounds (o + x.2) x.1) l.toArray = (setSeg l o v.cells.toList).toArray := by
        rw [← Array.foldl_toList, Array.toList_zipIdx, this]
        simp [setSeg]
      have h3 : (v.cells.zipIdx.foldl (fun cs (c, j) => cs.setIfInBounds (o + j) c) l.toArray) = (setSeg l o v.cells.toList).toArray := h2
      rw [h3]
      exact fillL_eq hp ps _ r h

def optL {α : Type} : List (Option α) → Option (List α)
  | [] => some []
  | x :: r => x.bind fun a => (optL r).map (a :: ·)

def placeOf (P : Program) (t : TypeId) (i : Nat) : Option (Nat × Nat) :=
  match P.underlying t with
  | some (.struct _) => (fieldI P t i).map fun x => (x.1, x.2.1)
  | some (.array _ _) => match elemI P t with
    | some (_, s, _) => some (i * s, s)
    | none => none
  | _ => none

def buildV (P : Program) (t : TypeId) (parts : List (Nat × Value)) : Option Value :=
  (zeroL P t).bind fun z => if parts = [] then some (.agg z.toArray) else (fillL (placeOf P t) z parts).map fun l => .agg l.toArray

theorem run_zeroL {P : Program} {w : World} {t : TypeId} {z : List Value} (h : zeroL P t = some z) : ∃ v, (zeroValue t).run P w = .ok v w ∧ v.cells.toList = z := by
  unfold zeroL at h
  split at h
  · rename_i i hi
    cases hz : i.zero with
    | none => simp [hz] at h
    | some v => simp only [hz, Option.map_some, Option.some.injEq] at h; exact ⟨v, by simp [zeroValue, typeInfo, hi, hz], h⟩
  · cases h

theorem mapM_sizes {P : Program} {w : World} : ∀ (fs : List Field), (∀ f ∈ fs, ∃ i, P.info? f.type = some i) →
    ∃ ps : List (Nat × Nat), (fs.mapM (fun (f : Field) => (do pure (f.offset, ← sizeOf f.type) : Sem (Nat × Nat)))).run P w = .ok ps w ∧ ps.length = fs.length ∧ ∀ (k : Nat) (f : Field), fs[k]? = some f → ps[k]? = some (f.offset, P.cellsOf f.type)
  | [], _ => ⟨[], by simp, rfl, by simp⟩
  | f :: fs, h => by
    obtain ⟨ps, h1, h2, h3⟩ := mapM_sizes (w := w) fs (fun g hg => h g (by simp [hg]))
    obtain ⟨i, hi⟩ := h f (by simp)
    refine ⟨(f.offset, P.cellsOf f.type) :: ps, by rw [List.mapM_cons]; simp only [Sem.run_bind, run_sizeOf w hi, Result.andThen_ok, Sem.run_pure, h1], by simp [h2], fun k g hk => ?_⟩
    cases k with
    | zero => simp at hk; subst hk; rfl
    | succ k => simpa using h3 k g (by simpa using hk)

/-- every field's type has its row -/
def fieldsOk (P : Program) (t : TypeId) : Bool :=
  match P.underlying t with
  | some (.struct fs) => fs.toList.all fun f => (P.info? f.type).isSome
  | some (.array _ e) => (P.info? e).isSome
  | _ => false

theorem run_buildV {P : Program} {w : World} {t : TypeId} {parts : List (Nat × Value)} {v : Value} (ho : fieldsOk P t = true) (h : buildV P t parts = some v) : (Instr.build t parts.toArray).run P w = .ok v w := by
  unfold buildV at h
  cases hz : zeroL P t with
  | none => simp [hz] at h
  | some z =>
    simp only [hz, Option.bind_some] at h
    obtain ⟨zv, hz1, hz2⟩ := run_zeroL (w := w) hz
    have h : (fillL (placeOf P t) z parts).map (fun l => Value.agg l.toArray) = some v := by
      split at h
      · rename_i hp; subst hp; simpa [fillL] using h
      · exact h
    simp only [Option.map_eq_some_iff] at h
    obtain ⟨r, hr, rfl⟩ := h
    have hzc : zv.cells = z.toArray := by rw [← hz2]
    unfold fieldsOk at ho
    split at ho
    · rename_i fs hu
      have hall : ∀ f ∈ fs.toList, ∃ i, P.info? f.type = some i := fun f hf => by
        have := (List.all_eq_true.1 ho) f hf
        exact Option.isSome_iff_exists.1 this
      obtain ⟨ps, p1, p2, p3⟩ := mapM_sizes (w := w) fs.toList hall
      have hf : Instr.fill (fun i => ps.toArray[i]?) z.toArray parts = some r.toArray := by
        refine fillL_eq (place := placeOf P t) (fun i x hx => ?_) parts z r hr
        simp only [placeOf, hu, Option.map_eq_some_iff] at hx
        obtain ⟨y, hy, rfl⟩ := hx
        obtain ⟨fs', fd, hs', hfd, hty, _, ho'⟩ := fieldI_eq hy
        rw [hu] at hs'; cases hs'
        have := p3 i fd (by simpa using hfd)
        rw [cellsOf_of hty, ← ho'] at this
        simpa using this
      simp only [Instr.build, Sem.run_bind, hz1, Result.andThen_ok, run_underlying hu, hzc]
      rw [Array.mapM_eq_mapM_toList]
      simp only [Sem.run_map, p1, Result.andThen_ok]
      rw [show (fun x => ps.toArray[x]?) = (fun i => ps.toArray[i]?) from rfl, hf]
      rfl
    · rename_i n e hu
      obtain ⟨i, hi⟩ := Option.isSome_iff_exists.1 ho
      have hf : Instr.fill (fun i => some (i * P.cellsOf e, P.cellsOf e)) z.toArray parts = some r.toArray := by
        refine fillL_eq (place := placeOf P t) (fun i x hx => ?_) parts z r hr
        simp only [placeOf, hu] at hx
        split at hx
        · rename_i a s ag he
          cases hx
          unfold elemI at he
          rw [hu] at he
          simp only [Option.map_eq_some_iff] at he
          obtain ⟨y, hy, hy2⟩ := he
          cases hy2
          rw [cellsOf_of (n := y.1) (ag := y.2) (by simpa using hy)]
        · cases hx
      simp only [Instr.build, Sem.run_bind, hz1, Result.andThen_ok, run_underlying hu, hzc, run_sizeOf w hi, hf]
      rfl
    · cases ho

def lenV (P : Program) (t : TypeId) (x : Value) : Option Value :=
  match x with
  | .string b => if isStr P t then some (.int .i64 b.size) else none
  | .slice _ n _ => match elemI P t with
    | some (none, _, _) => some (.int .i64 n)
    | _ => none
  | _ => match elemI P t with
    | some (some n, _, _) => some (.int .i64 n)
    | _ => none

theorem run_lenV {P : Program} {w : World} {t : TypeId} {x v : Value} (tys : Array TypeId) (h : lenV P t x = some v) (h0 : tys[0]? = some t) (ty : TypeId) : (Builtin.len_ tys ty #[x]).run P w = .ok v w := by
  unfold lenV at h
  split at h
  · split at h
    · rename_i hs; cases h; simp [Builtin.len_, h0, run_underlying (isStr_eq hs), goInt]
    · cases h
  · split at h
    · rename_i he; cases h; obtain ⟨e, hu, _⟩ := elemI_sl he; simp [Builtin.len_, h0, run_underlying hu, goInt]
    · cases h
  · split at h
    · rename_i he; cases h; obtain ⟨e, hu, _⟩ := elemI_arr he; simp [Builtin.len_, h0, run_underlying hu, goInt]
    · cases h

def minL : List Value → Option Value
  | [.int k a, .int _ b] => some (.int k (if b < a then b else a))
  | _ => none
def maxL : List Value → Option Value
  | [.int k a, .int _ b] => some (.int k (if b > a then b else a))
  | _ => none

theorem run_minL {P : Program} {w : World} {l : List Value} {v : Value} (tys : Array TypeId) (ty : TypeId) (h : minL l = some v) : (Builtin.min_ tys ty l.toArray).run P w = .ok v w := by
  unfold minL at h
  split at h
  · cases h; simp [Builtin.min_, Builtin.min2]
  · cases h
theorem run_maxL {P : Program} {w : World} {l : List Value} {v : Value} (tys : Array TypeId) (ty : TypeId) (h : maxL l = some v) : (Builtin.max_ tys ty l.toArray).run P w = .ok v w := by
  unfold maxL at h
  split at h
  · cases h; simp [Builtin.max_, Builtin.max2]
  · cases h

def pickV : Value → Value → Value → Option Value
  | .bool true, a, _ => some a
  | .bool false, _, b => some b
  | _, _, _ => none
def extractV (t : Value) (i : Nat) : Option Value :=
  match t with
  | .tuple vs => vs[i]?
  | _ => none

def binQ (P : Program) (op : BinOp) (t : TypeId) (x y : Value) : Option Value :=
  match op, x, y with
  | .eql, .agg a, .agg b => (eqV P t (.agg a) (.agg b)).map .bool
  | .neq, .agg a, .agg b => (eqV P t (.agg a) (.agg b)).map fun r => .bool !r
  | .eql, .bool a, .bool b => (eqV P t (.bool a) (.bool b)).map .bool
  | .neq, .bool a, .bool b => (eqV P t (.bool a) (.bool b)).map fun r => .bool !r
  | .eql, .slice a n c, y => (eqV P t (.slice a n c) y).map .bool
  | .neq, .slice a n c, y => (eqV P t (.slice a n c) y).map fun r => .bool !r
  | .eql, .pointer a, y => (eqV P t (.pointer a) y).map .bool
  | .neq, .pointer a, y => (eqV P t (.pointer a) y).map fun r => .bool !r
  | op, x, y => binV op x y

theorem run_binQ {P : Program} {w : World} {op : BinOp} {t : TypeId} {x y v : Value} (a b : Operand) (h : binQ P op t x y = some v) :
    (do eqGuard op t a b x y; binOp op t x y : Sem Value).run P w = .ok v w := by
  have hq : ∀ {r : Bool}, eqV P t x y = some r → (do eqGuard op t a b x y; binOp op t x y : Sem Value).run P w = (binOp op t x y).run P w := fun hr => by
    simp [run_eqGuard_eqV op a b hr]
  unfold binQ at h
  split at h
  case h_9 =>
    have h1 := run_binV (P := P) (w := w) t h
    rw [Sem.run_bind, run_eqGuard_plain op t a b, Result.andThen_ok, h1]
    · intro hh; subst hh; cases op <;> simp [binV] at h
    · intro c hh; subst hh; cases op <;> simp [binV] at h
  all_goals
    simp only [Option.map_eq_some_iff] at h
    obtain ⟨r, hr, rfl⟩ := h
    rw [hq hr]
    simp [binOp, run_eqV hr]

/-- a pointer that is not nil -/
def ptrV : Value → Option Value
  | .pointer (some a) => some (.pointer (some a))
  | _ => none
/-- where a slice begins -/
def dataV : Value → Option Value
  | .slice none _ _ => some (.pointer none)
  | .slice (some a) _ c => if c ≠ 0 then some (.pointer (some a)) else none
  | _ => none
theorem run_dataV {P : Program} {w : World} {x v : Value} (ts : Array TypeId) (ty : TypeId) (h : dataV x = some v) : (Builtin.unsafeSliceData_ ts ty #[x]).run P w = .ok v w := by
  unfold dataV at h
  split at h
  · cases h; rfl
  · split at h
    · rename_i hc
      cases h
      exact Lib.run_unsafeSliceData_row _ _ _ _ _ _ hc
    · cases h
  · cases h
def evQ (P : Program) (T : Tm) (H : Hp) (op : Op) : Option Value :=
  match op with
  | .move x => opd T x
  | .assign x => opd T x
  | .pick c a b => (opd T c).bind fun c => (opd T a).bind fun a => (opd T b).bind fun b => pickV c a b
  | .load t p => (opd T p).bind fun p => loadV P H t p
  | .binOp op t x y _ => (opd T x).bind fun x => (opd T y).bind fun y => binQ P op t x y
  | .unOp op _ x => (opd T x).bind fun x => unV op x
  | .convert s d x => (opd T x).bind fun x => convV P s d x
  | .fieldAddr s x f => (opd T x).bind fun x => fieldAddrV P s x f
  | .field s x f => (opd T x).bind fun x => fieldV P s x f
  | .indexAddr t x i => (opd T x).bind fun x => (opd T i).bind fun i => idxV P t x i
  | .index t x i => (opd T x).bind fun x => (opd T i).bind fun i => indexV P t x i
  | .slice t x lo hi mx => (opd T x).bind fun x => (optL ((lo.map (opd T)).toList)).bind fun lo => (optL ((hi.map (opd T)).toList)).bind fun hi => if mx.isNone then sliceV P t x lo.head? hi.head? none else none
  | .extract t i => (opd T t).bind fun t => extractV t i
  | .build t parts => if fieldsOk P t then (optL (parts.toList.map fun x => (opd T x.2).map fun v => (x.1, v))).bind fun ps => buildV P t ps else none
  | .makeFunc fn first captured => (optL (first.toList.map (opd T))).bind fun a => (optL (captured.toList.map (opd T))).bind fun b => some (.func fn a.toArray b.toArray)
  | .call { callee := .builtin b, args, argTypes } => (optL (args.toList.map (opd T))).bind fun vs =>
    match b, vs with
    | .len, [x] => match argTypes[0]? with
      | some t => lenV P t x
      | none => none
    | .min, vs => minL vs
    | .max, vs => maxL vs
    | .unsafeSliceData, [x] => dataV x
    | _, _ => none
  | .nilCheck x => (opd T x).bind fun x => ptrV x
  | _ => none

theorem optL_eval {n : Nat} {T : Tm} {a : Act} (h : TRel n T a) : ∀ {l : List Operand} {vs : List Value}, optL (l.map (opd T)) = some vs → l.map a.eval = vs
  | [], vs, hh => by simp only [List.map_nil, optL, Option.some.injEq] at hh; subst hh; rfl
  | x :: l, vs, hh => by
    simp only [List.map_cons, optL] at hh
    cases hx : opd T x with
    | none => simp [hx] at hh
    | some v =>
      simp only [hx, Option.bind_some, Option.map_eq_some_iff] at hh
      obtain ⟨r, hr, rfl⟩ := hh
      simp [opd_eval h hx, optL_eval h hr]

theorem optL_opt {n : Nat} {T : Tm} {a : Act} (h : TRel n T a) {x : Option Operand} {vs : List Value} (hh : optL ((x.map (opd T)).toList) = some vs) : x.map a.eval = vs.head? := by
  cases x with
  | none => simp only [Option.map_none, Option.toList_none, optL, Option.some.injEq] at hh; subst hh; rfl
  | some x =>
    simp only [Option.map_some, Option.toList_some, optL] at hh
    cases hx : opd T x with
    | none => simp [hx] at hh
    | some v => simp only [hx, Option.bind_some, Option.some.injEq] at hh; subst hh; simp [opd_eval h hx]

theorem optL_parts {n : Nat} {T : Tm} {a : Act} (h : TRel n T a) : ∀ {l : List (Nat × Operand)} {vs : List (Nat × Value)}, optL (l.map fun x => (opd T x.2).map fun v => (x.1, v)) = some vs → l.map (fun x => (x.1, a.eval x.2)) = vs
  | [], vs, hh => by simp only [List.map_nil, optL, Option.some.injEq] at hh; subst hh; rfl
  | x :: l, vs, hh => by
    simp only [List.map_cons, optL] at hh
    cases hx : opd T x.2 with
    | none => simp [hx] at hh
    | some v =>
      simp only [hx, Option.map_some, Option.bind_some, Option.map_eq_some_iff] at hh
      obtain ⟨r, hr, rfl⟩ := hh
      simp [opd_eval h hx, optL_parts h hr]

/-- **An operation that 'evQ' reckons yields that value, in every world that is as told, and does nothing else.** -/
theorem run_evQ {P : Program} {n : Nat} {T : Tm} {H : Hp} {a : Act} {w0 w : World} {mu : Nat → Prop} (ht : TRel n T a) (hs : Sat w0 mu H w) {o : Oper} {v : Value} (h : evQ P T H o.op = some v) :
    (execOp a.eval o).run P w = .ok (.value v) w := by
  obtain ⟨dst, op, type, pos, after, guard⟩ := o
  dsimp only at h
  unfold evQ at h
  split at h
  · simp only [execOp, opd_eval ht h, Sem.run_pure]
  · simp only [execOp, opd_eval ht h, Sem.run_pure]
  · simp only [Option.bind_eq_some_iff] at h
    obtain ⟨c, hc, x, hx, y, hy, h⟩ := h
    simp only [execOp, opd_eval ht hc, opd_eval ht hx, opd_eval ht hy]
    unfold pickV at h
    split at h
    · cases h; simp [asBool]
    · cases h; simp [asBool]
    · cases h
  · simp only [Option.bind_eq_some_iff] at h
    obtain ⟨p, hp, h⟩ := h
    simp [execOp, opd_eval ht hp, run_loadV hs h]
  · simp only [Option.bind_eq_some_iff] at h
    obtain ⟨x, hx, y, hy, h⟩ := h
    simp only [execOp, opd_eval ht hx, opd_eval ht hy]
    rw [Sem.run_bind, run_binQ _ _ h]
    rfl
  · simp only [Option.bind_eq_some_iff] at h
    obtain ⟨x, hx, h⟩ := h
    simp [execOp, opd_eval ht hx, run_unV h]
  · simp only [Option.bind_eq_some_iff] at h
    obtain ⟨x, hx, h⟩ := h
    simp [execOp, opd_eval ht hx, run_convV h]
  · simp only [Option.bind_eq_some_iff] at h
    obtain ⟨x, hx, h⟩ := h
    simp [execOp, opd_eval ht hx, run_fieldAddrV h]
  · simp only [Option.bind_eq_some_iff] at h
    obtain ⟨x, hx, h⟩ := h
    simp [execOp, opd_eval ht hx, run_fieldV h]
  · simp only [Option.bind_eq_some_iff] at h
    obtain ⟨x, hx, y, hy, h⟩ := h
    simp [execOp, opd_eval ht hx, opd_eval ht hy, run_idxV h]
  · simp only [Option.bind_eq_some_iff] at h
    obtain ⟨x, hx, y, hy, h⟩ := h
    simp [execOp, opd_eval ht hx, opd_eval ht hy, run_indexV h]
  · rename_i t x lo hi mx
    simp only [Option.bind_eq_some_iff] at h
    obtain ⟨x', hx, l, hl, r, hr, h⟩ := h
    split at h
    · rename_i hm
      cases mx with
      | some m => simp at hm
      | none => simp [execOp, opd_eval ht hx, optL_opt ht hl, optL_opt ht hr, run_sliceV h]
    · cases h
  · simp only [Option.bind_eq_some_iff] at h
    obtain ⟨x, hx, h⟩ := h
    unfold extractV at h
    split at h
    · simp [execOp, opd_eval ht hx, Instr.extract, h]
    · cases h
  · split at h
    · rename_i t parts ho
      simp only [Option.bind_eq_some_iff] at h
      obtain ⟨ps, hp, h⟩ := h
      have := run_buildV (w := w) ho h
      simp only [execOp]
      rw [show (parts.map fun (i, x) => (i, a.eval x)) = ps.toArray by rw [← optL_parts ht hp, ← Array.toList_inj]; simp]
      simp [this]
    · cases h
  · rename_i fn first captured
    simp only [Option.bind_eq_some_iff] at h
    obtain ⟨x, hx, y, hy, h⟩ := h
    cases h
    simp only [execOp]
    rw [show first.map a.eval = x.toArray by rw [← optL_eval ht hx, ← Array.toList_inj]; simp, show captured.map a.eval = y.toArray by rw [← optL_eval ht hy, ← Array.toList_inj]; simp]
    rfl
  · rename_i b args argTypes
    simp only [Option.bind_eq_some_iff] at h
    obtain ⟨vs, hv, h⟩ := h
    have hargs : args.map a.eval = vs.toArray := by rw [← optL_eval ht hv, ← Array.toList_inj]; simp
    split at h
    · split at h
      · rename_i t h0
        have := run_lenV (w := w) argTypes h h0 type
        simp [execOp, resolve, hargs, invoke, builtin, this]
      · cases h
    · have := run_minL (P := P) (w := w) argTypes type h
      simp [execOp, resolve, hargs, invoke, builtin, this]
    · have := run_maxL (P := P) (w := w) argTypes type h
      simp [execOp, resolve, hargs, invoke, builtin, this]
    · have := run_dataV (P := P) (w := w) argTypes type h
      simp [execOp, resolve, hargs, invoke, builtin, this]
    · cases h
  · rename_i x
    simp only [Option.bind_eq_some_iff] at h
    obtain ⟨y, hy, h⟩ := h
    unfold ptrV at h
    split at h
    · cases h
      simp [execOp, opd_eval ht hy]
    · cases h
  · cases h
end Go.Ev
