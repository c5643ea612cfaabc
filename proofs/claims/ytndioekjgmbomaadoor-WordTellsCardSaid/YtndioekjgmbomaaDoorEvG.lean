/- EvG: copy, make, literals of slices, strings and bytes; 'evOp'; a region in the order of its text; code. -/
import Derived.Test.YtndioekjgmbomaaDoorEvF
import Derived.Lib.Builder
set_option linter.unusedSimpArgs false
set_option linter.unusedVariables false
namespace Go.Ev
open Go.RowKit

def Kind.solid : Kind → Bool
  | .cel _ => true
  | .vec _ _ _ => true
  | _ => false

/-- the heap behind a write of cells -/
def writeV (H : Hp) (b o : Nat) (vs : List Value) : Option Hp :=
  match findE H b with
  | some e => if e.kind.solid = true ∧ o + vs.length ≤ e.cells.length ∧ vs.all oneC = true then some (updE H b (setSeg e.cells o vs)) else none
  | none => none

theorem Sat.writeV {P : Program} {w0 w : World} {mu : Nat → Prop} {H H' : Hp} (h : Sat w0 mu H w) {b o : Nat} {vs : List Value} (hs : writeV H b o vs = some H') :
    ∃ w', (storeCells ⟨b, o, none⟩ vs 0).run P w = .ok () w' ∧ Sat w0 mu H' w' ∧ marksOf H' = marksOf H := by
  unfold Ev.writeV at hs
  split at hs
  case h_2 => cases hs
  rename_i e he
  split at hs
  case isFalse => cases hs
  rename_i hc
  cases hs
  obtain ⟨hm, hb⟩ := findE_mem he
  have hh := h.ents e hm
  unfold Ent.holds at hh
  split at hh
  · rename_i hk; rw [hk] at hc; simp [Kind.solid] at hc
  · rename_i te hk
    rw [hb] at hh
    obtain ⟨w', h1, h2, h3⟩ := run_storeRow (P := P) (o := o) vs 0 _ w hh.2 (by simpa using hc.2.1) hc.2.2
    refine ⟨w', h1, h.upd h2 he (by unfold Ent.wr; rw [hk]; trivial) ?_, marks_updE _ _ _⟩
    unfold Ent.holds
    dsimp only
    rw [hk]
    exact ⟨hh.1, by rw [hb, h3]; simp⟩
  · rename_i te se cap hk
    rw [hb] at hh
    obtain ⟨h0, cs, hcs, hsize, hle, hpre⟩ := hh
    have hin : o + vs.length ≤ cs.toList.length := by have hcl : cs.toList.length = cs.size := by simp
                                                      omega
    obtain ⟨w', h1, h2, h3⟩ := run_storeRow (P := P) (o := o) vs 0 cs w hcs (by simpa using hin) hc.2.2
    refine ⟨w', h1, h.upd h2 he (by unfold Ent.wr; rw [hk]; trivial) ?_, marks_updE _ _ _⟩
    unfold Ent.holds
    dsimp only
    rw [hk]
    refine ⟨h0, _, by rw [hb, h3], by rw [List.size_toArray, Nat.add_zero, setSeg_length hin]; simpa using hsize, by rw [setSeg_length hc.2.1]; exact hle, fun k u hku => ?_⟩
    rw [List.getElem?_toArray, Nat.add_zero, setSeg_get hin]
    rw [setSeg_get hc.2.1] at hku
    split
    · rename_i hr; rw [if_pos hr] at hku; exact hku
    · rename_i hr; rw [if_neg hr] at hku; simpa using hpre k u hku
  · rename_i ob hk; rw [hk] at hc; simp [Kind.solid] at hc

def lenX : Value → Option Nat
  | .slice _ n _ => some n
  | .string b => some b.size
  | _ => none

/-- the first k elements' cells -/
def firstX (H : Hp) (x : Value) (k s : Nat) : Option (List Value) :=
  match x with
  | .slice none _ _ => if k = 0 then some [] else none
  | .slice (some ⟨b, o, none⟩) _ _ => if k = 0 then some [] else cellsAt H b o (k * s)
  | .string b => if s = 1 then some (byteV (b.data.toList.take k)) else none
  | _ => none

def evCopy (P : Program) (H : Hp) (dt : TypeId) (d x : Value) (K : Value → Hp → Prop) : Prop :=
  match slI P dt, lenX x, d with
  | some (_, s, _), some _, .slice none n _ => n = 0 ∧ (firstX H x 0 s).isSome ∧ K (.int .i64 0) H
  | some (_, s, _), some m, .slice (some ⟨b, o, none⟩) n _ =>
    (min m n = 0 → K (.int .i64 0) H) ∧
    (0 < min m n → match firstX H x (min m n) s with
      | some l => match writeV H b o l with
        | some H' => K (.int .i64 (min m n : Nat)) H'
        | none => False
      | none => False)
  | _, _, _ => False

theorem run_firstX {P : Program} {w0 w : World} {mu : Nat → Prop} {H : Hp} (h : Sat w0 mu H w) {x : Value} {k s : Nat} {l : List Value} (hx : firstX H x k s = some l) :
    (Builtin.firstCells s k x).run P w = .ok l.toArray w := by
  unfold firstX at hx
  split at hx
  · split at hx
    · cases hx; simp [Builtin.firstCells]
    · cases hx
  · split at hx
    · rename_i h0; cases hx; subst h0; simp [Builtin.firstCells, loadCells, loadCellsFrom]
    · obtain ⟨h1, h2⟩ := h.cellsAt hx
      simp only [Builtin.firstCells, loadCells]
      rw [run_loadCellsFrom _ 0 l #[] h1 (by simpa using h2)]
      simp
  · split at hx
    · cases hx
      simp only [Builtin.firstCells, Sem.run_pure]
      congr 1
      rw [← Array.toList_inj]
      simp [byteV, List.extract_eq_take_drop]
    · cases hx
  · cases hx

theorem Sat.copy {P : Program} {w0 w : World} {mu : Nat → Prop} {H : Hp} (h : Sat w0 mu H w) {dt ty : TypeId} {d x : Value} {K : Value → Hp → Prop} (hk : evCopy P H dt d x K) (tys : Array TypeId) (h0 : tys[0]? = some dt) :
    ∃ v H' w', (Builtin.copy_ tys ty #[d, x]).run P w = .ok v w' ∧ K v H' ∧ Sat w0 mu H' w' ∧ marksOf H' = marksOf H := by
  have hlen : ∀ m, lenX x = some m → (Builtin.lenOf x).run P w = .ok m w := by
    intro m hm
    unfold lenX at hm
    split at hm
    · cases hm; simp [Builtin.lenOf]
    · cases hm; simp [Builtin.lenOf]
    · cases hm
  unfold evCopy at hk
  split at hk
  · rename_i e s n m n' c hsl hlx
    obtain ⟨hu, i, z, hi, hz, hzs, hsi, hby, hs0, hb0⟩ := slI_eq hsl
    subst hsi
    obtain ⟨rfl, hx, hK⟩ := hk
    obtain ⟨l, hl⟩ := Option.isSome_iff_exists.1 hx
    refine ⟨_, H, w, ?_, hK, h, rfl⟩
    simp [Builtin.copy_, h0, run_underlying hu, hlen _ hlx, sizeOf, typeInfo, hi, run_firstX (P := P) h hl, goInt]
  · rename_i e s n m b o n' c hsl hlx
    obtain ⟨hu, i, z, hi, hz, hzs, hsi, hby, hs0, hb0⟩ := slI_eq hsl
    subst hsi
    rcases Nat.eq_zero_or_pos (min m n') with h00 | hpos
    · have hK := hk.1 h00
      refine ⟨_, H, w, ?_, hK, h, rfl⟩
      have hf : (Builtin.firstCells i.size 0 x).run P w = .ok #[] w := by
        unfold lenX at hlx
        split at hlx
        · rename_i a _ _
          cases a with
          | none => simp [Builtin.firstCells]
          | some a => simp [Builtin.firstCells, loadCells, loadCellsFrom]
        · simp [Builtin.firstCells]
        · cases hlx
      have hmin : Nat.min m n' = 0 := h00
      simp [Builtin.copy_, h0, run_underlying hu, hlen _ hlx, sizeOf, typeInfo, hi, hmin, hf, goInt, storeCells]
    · have hk := hk.2 hpos
      split at hk
      case h_2 => exact hk.elim
      rename_i l hl
      split at hk
      case h_2 => exact hk.elim
      rename_i H' hw
      obtain ⟨w', h1, h2, h3⟩ := h.writeV (P := P) hw
      refine ⟨_, H', w', ?_, hk, h2, h3⟩
      have hf := run_firstX (P := P) h hl
      simp [Builtin.copy_, h0, run_underlying hu, hlen _ hlx, sizeOf, typeInfo, hi, goInt]
      have : Nat.min m n' = min m n' := rfl
      rw [this, hf]
      simp [h1]
  · exact hk.elim

/-! ### make, and literals of slices -/
theorem madeCells_get (z : List Value) (n k : Nat) (hk : k < n) (hz : 0 < z.length) : (madeCells z.toArray n)[k]? = z[k % z.length]? := by
  have : k % z.length < z.length := Nat.mod_lt _ hz
  simp [madeCells, hk, this]

theorem flatten_rep_get (z : List Value) : ∀ (l k : Nat), k < l * z.length → ((List.replicate l z).flatten)[k]? = z[k % z.length]?
  | 0, k, h => by simp at h
  | l + 1, k, h => by
    rw [List.replicate_succ, List.flatten_cons]
    by_cases hk : k < z.length
    · rw [List.getElem?_append_left hk, Nat.mod_eq_of_lt hk]
    · rw [List.getElem?_append_right (by omega), flatten_rep_get z l (k - z.length) (by rw [Nat.add_mul] at h; omega)]
      congr 1
      exact (Nat.mod_eq_sub_mod (by omega)).symm

theorem madeCells_flat (z : List Value) (l : Nat) (hz : 0 < z.length) : (madeCells z.toArray (l * z.length)).toList = (List.replicate l z).flatten := by
  apply List.ext_getElem?
  intro k
  by_cases hk : k < l * z.length
  · rw [flatten_rep_get z l k hk, Array.getElem?_toList, madeCells_get z _ k hk hz]
  · rw [List.getElem?_eq_none (by simp [madeCells]; omega), List.getElem?_eq_none (by simp; omega)]

def repV (l : Nat) (z : List Value) : List Value := (List.replicate l z).flatten
theorem repV_zero (z : List Value) : repV 0 z = [] := rfl
theorem repV_succ (n : Nat) (z : List Value) : repV (n + 1) z = z ++ repV n z := by simp [repV, List.replicate_succ]
theorem repV_length (l : Nat) (z : List Value) : (repV l z).length = l * z.length := by simp [repV]

def evMake (P : Program) (H : Hp) (t : TypeId) (l c : Value) (K : Value → Hp → Prop) : Prop :=
  match slI P t, l, c with
  | some (e, s, by_), .int _ l, .int _ c => match zeroL P e with
    | some z => (0 ≤ l ∧ l ≤ c ∧ c * by_ ≤ (two47 : Int)) ∧ ∀ b, fresh b H → K (.slice (some ⟨b, 0, none⟩) l.toNat c.toNat) (⟨b, 0, .vec e s c.toNat, repV l.toNat z⟩ :: H)
    | none => False
  | _, _, _ => False

theorem zeroL_info {P : Program} {e : TypeId} {i : TypeInfo} {z : Value} {zl : List Value} (hi : P.info? e = some i) (hz : i.zero = some z) (h : zeroL P e = some zl) : z.cells = zl.toArray := by
  unfold zeroL at h
  rw [hi] at h
  simp only [hz, Option.map_some, Option.some.injEq] at h
  rw [← h]

theorem Sat.make {P : Program} {w0 w : World} {mu : Nat → Prop} {H : Hp} (h : Sat w0 mu H w) {t : TypeId} {l c : Value} {K : Value → Hp → Prop} (hk : evMake P H t l c K) :
    ∃ v H' w', (Instr.makeSlice t l c).run P w = .ok v w' ∧ K v H' ∧ Sat w0 mu H' w' ∧ marksOf H' = marksOf H := by
  unfold evMake at hk
  split at hk
  case h_2 => exact hk.elim
  rename_i e s by_ k1 l k2 c hsl
  obtain ⟨hu, i, z, hi, hz, hzs, hsi, hby, hs0, hb0⟩ := slI_eq hsl
  subst hsi; subst hby
  split at hk
  case h_2 => exact hk.elim
  rename_i zl hzl
  obtain ⟨⟨hl0, hlc, hbound⟩, hK⟩ := hk
  have hzc := zeroL_info hi hz hzl
  have hzlen : zl.length = i.size := by rw [hzc] at hzs; simpa using hzs
  have hc1 : c ≤ c * (i.bytes : Int) := by
    have h1 : (1 : Int) ≤ i.bytes := by omega
    have := Int.mul_le_mul_of_nonneg_left h1 (show 0 ≤ c by omega)
    omega
  have h63 : c ≤ 9223372036854775807 := by unfold two47 at hbound; omega
  have h48 : (i.bytes : Int) * c ≤ 281474976710656 := by rw [Int.mul_comm]; unfold two47 at hbound; omega
  have hrun := run_make (P := P) w t e i z hu hi hz k1 k2 l c hl0 hlc h48 h63
  refine ⟨_, _, _, hrun, hK w.heap.size h.fresh_size, ?_, by simp [marksOf]⟩
  refine h.alloc rfl ?_
  unfold Ent.holds
  have hle : l.toNat * i.size ≤ c.toNat * i.size := Nat.mul_le_mul_right _ (by omega)
  refine ⟨rfl, _, World.alloc_heap_new _ _, by rw [size_madeCells], by rw [repV_length, hzlen]; exact hle, fun k v hk => ?_⟩
  dsimp only at hk
  have hkl := (List.getElem?_eq_some_iff.1 hk).1
  rw [repV_length] at hkl
  rw [hzc, madeCells_get zl _ k (by rw [hzlen] at hkl; omega) (by omega)]
  rw [repV, flatten_rep_get zl _ k hkl] at hk
  exact hk

/-- n elements, written out -/
def litV : Nat → List Value → List Value
  | 0, _ => []
  | n + 1, z => z ++ litV n z
theorem litV_eq : ∀ (n : Nat) (z : List Value), litV n z = repV n z
  | 0, _ => rfl
  | n + 1, z => by rw [litV, repV_succ, litV_eq n z]

def evLit (P : Program) (H : Hp) (t : TypeId) (n : Nat) (parts : List (Nat × Value)) (K : Value → Hp → Prop) : Prop :=
  match slI P t with
  | some (e, s, _) => match zeroL P e with
    | some z => n * s ≤ 16777216 ∧ match fillL (fun i => some (i * s, s)) (litV n z) parts with
      | some l => ∀ b, fresh b H → K (.slice (some ⟨b, 0, none⟩) n n) (⟨b, 0, .vec e s n, l⟩ :: H)
      | none => False
    | none => False
  | none => False

theorem fillL_length {place : Nat → Option (Nat × Nat)} : ∀ (ps : List (Nat × Value)) (l r : List Value), fillL place l ps = some r → r.length = l.length
  | [], l, r, h => by simp only [fillL, Option.some.injEq] at h; rw [h]
  | (i, v) :: ps, l, r, h => by
    simp only [fillL] at h
    cases hx : place i with
    | none => simp [hx] at h
    | some x =>
      simp only [hx, Option.bind_some] at h
      split at h
      case isFalse => cases h
      rename_i hb
      rw [fillL_length ps _ r h, setSeg_length (by rw [hb.1]; exact hb.2)]

theorem Sat.lit {P : Program} {w0 w : World} {mu : Nat → Prop} {H : Hp} (h : Sat w0 mu H w) {t : TypeId} {n : Nat} {parts : List (Nat × Value)} {K : Value → Hp → Prop} (hk : evLit P H t n parts K) :
    ∃ v H' w', (Instr.buildSlice t n parts.toArray).run P w = .ok v w' ∧ K v H' ∧ Sat w0 mu H' w' ∧ marksOf H' = marksOf H := by
  unfold evLit at hk
  split at hk
  case h_2 => exact hk.elim
  rename_i e s by_ hsl
  obtain ⟨hu, i, z, hi, hz, hzs, hsi, hby, hs0, hb0⟩ := slI_eq hsl
  subst hsi
  split at hk
  case h_2 => exact hk.elim
  rename_i zl hzl
  obtain ⟨hle, hk⟩ := hk
  split at hk
  case h_2 => exact hk.elim
  rename_i l hf
  rw [litV_eq] at hf
  have hzc := zeroL_info hi hz hzl
  have hzlen : zl.length = i.size := by rw [hzc] at hzs; simpa using hzs
  have hn : ¬ 16777216 < n * i.size := by omega
  have hfill : Instr.fill (fun j => some (j * i.size, i.size)) (madeCells zl.toArray (n * i.size)) parts = some l.toArray := by
    have := fillL_eq (place := fun j => some (j * i.size, i.size)) (place' := fun j => some (j * i.size, i.size)) (fun _ _ h => h) parts _ l hf
    rw [← this]
    congr 1
    rw [← Array.toList_inj, ← hzlen, madeCells_flat zl n (by omega)]
    simp [repV]
  have hlen : l.length = n * i.size := by rw [fillL_length parts _ l hf, repV_length, hzlen]
  have hrun : (Instr.buildSlice t n parts.toArray).run P w = .ok (.slice (some ⟨w.heap.size, 0, none⟩) n n) (w.alloc (.cells l.toArray e)) := by
    by_cases h0 : n * i.size = 0
    · have hfill0 : Instr.fill (fun j => some (j * i.size, i.size)) #[] parts = some l.toArray := by
        rw [← hfill]; congr 1; rw [← Array.toList_inj]; simp [madeCells, h0]
      have hr0 : Array.map (fun _ : Nat => (default : Value)) (Array.range 0) = #[] := by simp [← Array.toList_inj]
      simp [Instr.buildSlice, run_underlying hu, sizeOf, typeInfo, hi, h0, hr0, hfill0, newRow]
    · unfold madeCells at hfill
      rw [← hzc] at hfill
      simp [Instr.buildSlice, run_underlying hu, sizeOf, typeInfo, hi, hn, h0, zeroValue, hz, newRow, hfill]
  refine ⟨_, _, _, hrun, hk w.heap.size h.fresh_size, ?_, by simp [marksOf]⟩
  refine h.alloc rfl ?_
  unfold Ent.holds
  exact ⟨rfl, _, World.alloc_heap_new _ _, by simpa using hlen, by dsimp only; omega, fun k v hk => by simpa using hk⟩

/-! ### strings and bytes -/
def isBytes (P : Program) (t : TypeId) : Bool :=
  match P.underlying t with
  | some (.slice e) => match P.underlying e with
    | some (.int .u8) => true
    | _ => false
  | _ => false

theorem isBytes_eq {P : Program} {t : TypeId} (h : isBytes P t = true) : ∃ e, P.underlying t = some (.slice e) ∧ P.underlying e = some (.int .u8) := by
  unfold isBytes at h
  split at h
  · rename_i e hu
    split at h
    · exact ⟨e, hu, by assumption⟩
    · cases h
  · cases h

def bytesOf : List Value → Option (List UInt8)
  | [] => some []
  | .int .u8 n :: r => (bytesOf r).map (UInt8.ofNat n.toNat :: ·)
  | _ => none

theorem bytesOf_byteV : ∀ (l : List UInt8), bytesOf (byteV l) = some l
  | [] => rfl
  | x :: l => by
    have := bytesOf_byteV l
    simp only [byteV, List.map_cons, bytesOf] at this ⊢
    simp [this]

theorem bytesOf_ints : ∀ {l : List Value} {r : List UInt8}, bytesOf l = some r → ∃ ns : List Int, l = ns.map (Value.int .u8) ∧ r = ns.map fun n => UInt8.ofNat n.toNat
  | [], r, h => by simp only [bytesOf, Option.some.injEq] at h; exact ⟨[], rfl, h.symm⟩
  | x :: l, r, h => by
    unfold bytesOf at h
    split at h
    · rename_i heq; cases heq
    · rename_i n r' heq
      cases heq
      simp only [Option.map_eq_some_iff] at h
      obtain ⟨r2, h2, rfl⟩ := h
      obtain ⟨ns, rfl, rfl⟩ := bytesOf_ints h2
      exact ⟨n :: ns, by simp, by simp⟩
    · cases h

def strOfV (P : Program) (H : Hp) (s d : TypeId) (x : Value) : Option Value :=
  if isBytes P s && isStr P d then
    match x with
    | .slice none _ _ => some (.string ByteArray.empty)
    | .slice (some ⟨b, o, none⟩) n _ => if n = 0 then some (.string ByteArray.empty) else ((cellsAt H b o n).bind bytesOf).map fun l => .string ⟨l.toArray⟩
    | _ => none
  else none

theorem run_strOfV {P : Program} {w0 w : World} {mu : Nat → Prop} {H : Hp} (h : Sat w0 mu H w) {s d : TypeId} {x v : Value} (hv : strOfV P H s d x = some v) : (convert s d x).run P w = .ok v w := by
  unfold strOfV at hv
  split at hv
  case isFalse => cases hv
  rename_i hc
  simp only [Bool.and_eq_true] at hc
  obtain ⟨e, hs, he⟩ := isBytes_eq hc.1
  have hd := isStr_eq hc.2
  split at hv
  · rename_i n c
    cases hv
    rw [run_convert_bytes_string w s d e none n c hs he hd]
    rfl
  · rename_i b o n c
    rw [run_convert_bytes_string w s d e _ n c hs he hd]
    split at hv
    · rename_i h0
      cases hv
      subst h0
      rw [run_bytesToString w ⟨b, o, none⟩ 0 c [] (by simp [loadCells, loadCellsFrom])]
      rfl
    simp only [Option.map_eq_some_iff, Option.bind_eq_some_iff] at hv
    obtain ⟨r, ⟨l, hl, hr⟩, rfl⟩ := hv
    obtain ⟨ns, rfl, rfl⟩ := bytesOf_ints hr
    obtain ⟨h1, h2⟩ := h.cellsAt hl
    have hld : (loadCells ⟨b, o, none⟩ n).run P w = .ok (ns.map (Value.int .u8)).toArray w := by
      unfold loadCells
      rw [run_loadCellsFrom _ 0 _ #[] h1 (by simpa using h2)]
      simp
    rw [run_bytesToString w ⟨b, o, none⟩ n c ns hld, foldl_push_bytes]
    simp
  · cases hv

/-- []byte(s): new memory, that is only read -/
def evBytes (H : Hp) (x : Value) (K : Value → Hp → Prop) : Prop :=
  match x with
  | .string s => ∀ b c, fresh b H → s.size ≤ c → K (.slice (some ⟨b, 0, none⟩) s.size c) (⟨b, 0, .ro, byteV s.data.toList⟩ :: H)
  | _ => False

theorem Sat.bytes {P : Program} {w0 w : World} {mu : Nat → Prop} {H : Hp} (h : Sat w0 mu H w) {s d : TypeId} {x : Value} {K : Value → Hp → Prop} (hs : isStr P s = true) (hd : isBytes P d = true) (hk : evBytes H x K) :
    ∃ v H' w', (convert s d x).run P w = .ok v w' ∧ K v H' ∧ Sat w0 mu H' w' ∧ marksOf H' = marksOf H := by
  unfold evBytes at hk
  split at hk
  case h_2 => exact hk.elim
  rename_i s'
  obtain ⟨e, hd1, hd2⟩ := isBytes_eq hd
  obtain ⟨c, hc, hle⟩ : ∃ c, grownCap w s'.size 0 e = c ∧ s'.size ≤ c := ⟨_, rfl, grownCap_ge w _ _ _⟩
  let cs : Array Value := (s'.data.map fun b => Value.int .u8 b.toNat) ++ Array.replicate (c - s'.size) (.int .u8 0)
  have hcs : cs.size = c := by simp only [cs, Array.size_append, Array.size_map, Array.size_replicate]; show s'.size + _ = _; omega
  let w' : World := (w.drew.alloc (.cells cs e)).freeze ⟨w.heap.size, cs.size, none⟩ 1
  have hw' : w'.heap[w.heap.size]? = some (.cells cs e (cs.size, cs.size + 1)) := by
    simp only [w', World.freeze, Nat.one_ne_zero, if_false]
    rw [Array.getElem?_modify, if_pos rfl, show w.heap.size = w.drew.heap.size from rfl, World.alloc_heap_new]
    simp
  have hrun : (convert s d (.string s')).run P w = .ok (.slice (some ⟨w.heap.size, 0, none⟩) s'.size c) w' := by
    simp only [convert, Sem.run_bind, run_underlying (isStr_eq hs), run_underlying hd1, Result.andThen_ok, run_underlying hd2]
    have hc' : (Question.appendCap s'.size 0 e).cut (w.tape w.drawn (.appendCap s'.size 0 e)) = c := hc
    have hnew := World.alloc_heap_new w.drew (.cells cs e)
    rw [show w.drew.heap.size = w.heap.size from rfl] at hnew
    have hcs' : (s'.data.map fun b => Value.int .u8 b.toNat) ++ Array.replicate (c - s'.size) (.int .u8 0) = cs := rfl
    have hm : (markStringish ⟨w.heap.size, 0, none⟩).run P (w.drew.alloc (.cells cs e)) = .ok () w' := by
      unfold markStringish
      simp only [Sem.run_bind, run_shape, World.shape?, hnew, Result.andThen_ok]
      rfl
    simp [Conv.stringToBytes, Question.forced, hc', newRow, hcs', hm]
  refine ⟨_, _, w', hrun, hk w.heap.size c h.fresh_size hle, ?_, by simp [marksOf]⟩
  have ht : Turn w.heap.size w w' := by
    refine ⟨rfl, rfl, rfl, by simp [w', World.freeze], fun k hk hne => ?_⟩
    simp only [w', World.freeze]
    simp [Array.getElem?_modify, Ne.symm hne]
    exact Below.heap_alloc w.drew _ k hk
  refine h.front ht (.inr h.size) rfl ?_ (fun x hx => ⟨hx, by have := Ent.lt (h.ents x hx); omega⟩) h.apart
  unfold Ent.holds
  refine ⟨by simp [w', World.freeze], fun k v hk => ?_⟩
  dsimp only at hk
  simp only [World.cell?, hw', Nat.zero_add]
  have hkl : k < s'.size := by have := (List.getElem?_eq_some_iff.1 hk).1; simpa [byteV] using this
  simp only [Option.isSome_none, Bool.false_eq_true, if_false, cs]
  rw [Array.getElem?_append_left (by simpa using hkl)]
  simpa [byteV] using hk

/-! ### pointers turned to unsafe ones and back; a string that is a row's bytes -/
/-- may a pointer of type s be turned to one of type d, where a variable of type t of n cells lies -/
def ptrOk (P : Program) (s d t : TypeId) (n : Nat) : Bool :=
  match P.underlying s, P.underlying d with
  | some (.pointer e), some .unsafePointer => match P.info? e with
    | some j => decide (j.size ≠ 0) && decide (0 < n)
    | none => false
  | some .unsafePointer, some (.pointer u) => (P.info? u).isSome && liesAt P P.depth t (n / P.cellsOf t) 0 u 1
  | _, _ => false
def ptrC (P : Program) (H : Hp) (s d : TypeId) (x : Value) : Option Value :=
  match x with
  | .pointer (some ⟨b, 0, none⟩) => match findE H b with
    | some ⟨_, _, .cel t, cs⟩ => if ptrOk P s d t cs.length then some (.pointer (some ⟨b, 0, none⟩)) else none
    | _ => none
  | _ => none
theorem run_ptrC {P : Program} {w0 w : World} {mu : Nat → Prop} {H : Hp} (h : Sat w0 mu H w) {s d : TypeId} {x v : Value} (hv : ptrC P H s d x = some v) : (convert s d x).run P w = .ok v w := by
  unfold ptrC at hv
  split at hv
  case h_2 => cases hv
  rename_i b
  split at hv
  case h_2 => cases hv
  rename_i _ b' o' t cs hf
  split at hv
  case isFalse => cases hv
  rename_i hp
  cases hv
  obtain ⟨hm, hb⟩ := findE_mem hf
  have hh := h.ents _ hm
  unfold Ent.holds at hh
  dsimp only at hh hb
  subst hb
  have hsh : w.shape? b' = some (t, cs.length) := by simp [World.shape?, hh.2]
  unfold ptrOk at hp
  split at hp
  · rename_i e hs hd
    split at hp
    · rename_i j hj
      simp only [Bool.and_eq_true, decide_eq_true_eq] at hp
      exact Lib.run_to_unsafe w ⟨b', 0, none⟩ hs hd hj hp.1 hsh hp.2
    · cases hp
  · rename_i u hs hd
    simp only [Bool.and_eq_true] at hp
    obtain ⟨j, hj⟩ := Option.isSome_iff_exists.1 hp.1
    exact Lib.run_from_unsafe w ⟨b', 0, none⟩ hs hd hj hsh hp.2
  · cases hp
def byteL : List Value → Option (List UInt8)
  | [] => some []
  | .int .u8 n :: r => if 0 ≤ n ∧ n < 256 then (byteL r).map (UInt8.ofNat n.toNat :: ·) else none
  | _ => none
theorem byteL_byteV : ∀ (l : List UInt8), byteL (byteV l) = some l
  | [] => rfl
  | x :: l => by
    have := byteL_byteV l
    have hx : x.toNat < 256 := x.toNat_lt
    simp only [byteV, List.map_cons, byteL] at this ⊢
    rw [if_pos ⟨by omega, by omega⟩]
    simp [this]
theorem byteL_some : ∀ {c : List Value} {l : List UInt8}, byteL c = some l → c = byteV l
  | [], l, h => by simp only [byteL, Option.some.injEq] at h; subst h; rfl
  | x :: c, l, h => by
    unfold byteL at h
    split at h
    · rename_i heq; cases heq
    · rename_i n r heq
      cases heq
      split at h
      · rename_i hn
        simp only [Option.map_eq_some_iff] at h
        obtain ⟨r2, h2, rfl⟩ := h
        rw [byteL_some h2]
        simp only [byteV, List.map_cons]
        congr 2
        have : n.toNat < 256 := by omega
        simp [Nat.mod_eq_of_lt this]
        omega
      · cases h
    · cases h
def usOk (P : Program) (st e : TypeId) : Bool :=
  match P.underlying st with
  | some (.pointer e') => e' == e && P.cellsOf e == 1
  | _ => false
/-- unsafe.String: the bytes are frozen: their row is told of no more -/
def usV (P : Program) (H : Hp) (st : TypeId) (p n : Value) : Option (ByteArray × Hp) :=
  match p, n with
  | .pointer none, .int .i64 m => if m = 0 then some (ByteArray.empty, H) else none
  | .pointer (some ⟨b, 0, none⟩), .int .i64 m => if m = 0 then some (ByteArray.empty, H) else match findE H b with
    | some ⟨_, _, .vec e s _, cs⟩ => if s = 1 ∧ 0 < m ∧ m ≤ cs.length ∧ m ≤ 9223372036854775807 ∧ usOk P st e then (byteL (cs.take m.toNat)).map fun l => (⟨l.toArray⟩, remE H b) else none
    | _ => none
  | _, _ => none
theorem Sat.us {P : Program} {w0 w : World} {mu : Nat → Prop} {H H' : Hp} (h : Sat w0 mu H w) {st it ty : TypeId} {p n : Value} {s : ByteArray} (hv : usV P H st p n = some (s, H')) :
    ∃ w', (Builtin.unsafeString_ #[st, it] ty #[p, n]).run P w = .ok (.string s) w' ∧ Sat w0 mu H' w' ∧ marksOf H' = marksOf H := by
  unfold usV at hv
  split at hv
  · split at hv
    · rename_i h0
      cases hv
      subst h0
      exact ⟨w, Lib.run_unsafeString_none w _ _ _ _, h, rfl⟩
    · cases hv
  · rename_i b m
    split at hv
    · rename_i h0
      cases hv
      subst h0
      exact ⟨w, Lib.run_unsafeString_none w _ _ _ _, h, rfl⟩
    split at hv
    case h_2 => cases hv
    rename_i _ b' o' e z cap cs hf
    split at hv
    case isFalse => cases hv
    rename_i hc
    obtain ⟨rfl, hm0, hml, hm63, hus⟩ := hc
    simp only [Option.map_eq_some_iff] at hv
    obtain ⟨l, hl, hv⟩ := hv
    cases hv
    obtain ⟨hmem, hb⟩ := findE_mem hf
    dsimp only at hb
    subst hb
    have hh := h.ents _ hmem
    unfold Ent.holds at hh
    dsimp only at hh
    obtain ⟨-, xs, hx, hxs, hle, hg⟩ := hh
    have hcl := byteL_some hl
    have hlen : l.length = m.toNat := by
      have := congrArg List.length hcl
      simp only [List.length_take, byteV, List.length_map] at this
      omega
    have hl0 : l ≠ [] := by intro h0; rw [h0] at hlen; simp at hlen; omega
    unfold usOk at hus
    split at hus
    case h_2 => cases hus
    rename_i e' hu
    simp only [Bool.and_eq_true, beq_iff_eq] at hus
    obtain ⟨rfl, hce⟩ := hus
    have hrun := Lib.run_unsafeString_row w st it ty e' hu hce b' xs.size (by simp [World.shape?, hx]) l hl0 (by omega) (by omega) (fun j x hj => by
      have h1 : cs[j]? = some (.int .u8 x.toNat) := by
        have h2 : (cs.take m.toNat)[j]? = some (.int .u8 x.toNat) := by rw [hcl]; simp [byteV, hj]
        rw [List.getElem?_take] at h2
        split at h2
        · exact h2
        · cases h2
      have h3 := hg j _ h1
      rcases Nat.eq_zero_or_pos j with rfl | hj0
      · simp [World.cell?, Addr.add, hx, h3]
      · simp [World.cell?, Addr.add, hx, h3, show ¬ j = 0 by omega])
    rw [show ((l.length : Nat) : Int) = m by omega] at hrun
    have hw : Ent.wr ⟨b', o', .vec e' 1 cap, cs⟩ := trivial
    have hmo : ∀ o, (Ent.mk b' o' (.vec e' 1 cap) cs).kind ≠ .obj o := by intro o ho; cases ho
    have hturn : Turn b' w (w.freeze ⟨b', 0, none⟩ l.length) := by
      unfold World.freeze
      split
      · exact ⟨rfl, rfl, rfl, Nat.le_refl _, fun _ _ _ => rfl⟩
      · refine ⟨rfl, rfl, rfl, ?_, fun k hk hne => ?_⟩
        · simp
        · simp only [Array.getElem?_modify]
          rw [if_neg (fun h => hne h.symm)]
    refine ⟨_, hrun, ?_, marks_remE hf hmo⟩
    have hsub := remE_sub H b'
    have hne := remE_ne hw h.apart hf
    exact ⟨hturn.os.trans h.os, hturn.tape.trans h.tape, hturn.output.trans h.output, Nat.le_trans h.size hturn.size, h.old_turn hturn (h.own _ hmem hw),
      fun e he => Ent.holds_of (h.ents e (hsub.subset he)) (hturn.same _ (Ent.lt (h.ents e (hsub.subset he))) (hne e he)), fun e he => h.own e (hsub.subset he), h.apart.sublist hsub⟩
  · cases hv
end Go.Ev
