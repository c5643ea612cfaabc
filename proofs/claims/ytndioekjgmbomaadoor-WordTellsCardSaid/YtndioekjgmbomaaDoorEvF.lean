/- EvF: append, copy, make; then 'evOp', all operations; a region in the order of its text; code. -/
import Derived.Test.YtndioekjgmbomaaDoorEvE
set_option linter.unusedSimpArgs false
set_option linter.unusedVariables false
namespace Go.Ev
open Go.RowKit

/-- of a slice's type: the element's type, its cells, its bytes; its zero value has as many cells -/
def slI (P : Program) (t : TypeId) : Option (TypeId × Nat × Nat) :=
  match P.underlying t with
  | some (.slice e) => match P.info? e with
    | some i => match i.zero with
      | some z => if z.cells.size = i.size ∧ 0 < i.size ∧ 0 < i.bytes then some (e, i.size, i.bytes) else none
      | none => none
    | none => none
  | _ => none

theorem slI_eq {P : Program} {t e : TypeId} {s n : Nat} (h : slI P t = some (e, s, n)) :
    P.underlying t = some (.slice e) ∧ ∃ i z, P.info? e = some i ∧ i.zero = some z ∧ z.cells.size = s ∧ i.size = s ∧ i.bytes = n ∧ 0 < s ∧ 0 < n := by
  unfold slI at h
  split at h
  case h_2 => cases h
  rename_i e' hu
  split at h
  case h_2 => cases h
  rename_i i hi
  split at h
  case h_2 => cases h
  rename_i z hz
  split at h
  case isFalse => cases h
  rename_i hc
  cases h
  exact ⟨hu, i, z, hi, hz, hc.1, rfl, rfl, hc.2.1, hc.2.2⟩

def byteV (l : List UInt8) : List Value := l.map fun b => .int .u8 b.toNat

/-- the cells of what is appended or copied, and how many elements they are -/
def srcL (P : Program) (H : Hp) (xt : TypeId) (x : Value) (s : Nat) : Option (List Value × Nat) :=
  match x with
  | .slice none m _ => match elemI P xt with
    | some (none, _, _) => if m = 0 then some ([], 0) else none
    | _ => none
  | .slice (some ⟨b, o, none⟩) m _ => match elemI P xt with
    | some (none, _, _) => match cellsAt H b o (m * s) with
      | some l => some (l, m)
      | none => if m = 0 then some ([], 0) else none
    | _ => none
  | .slice (some ⟨_, _, some _⟩) m _ => match elemI P xt with
    | some (none, _, _) => if m = 0 then some ([], 0) else none
    | _ => none
  | .string b => if isStr P xt ∧ s = 1 then some (byteV b.data.toList, b.size) else none
  | _ => none

theorem run_srcL {P : Program} {w0 w : World} {mu : Nat → Prop} {H : Hp} (h : Sat w0 mu H w) {xt : TypeId} {x : Value} {s m : Nat} {l : List Value} (hx : srcL P H xt x s = some (l, m)) :
    (∃ d, P.underlying xt = some d ∧ ∀ k, d ≠ .int k) ∧ (Builtin.lenOf x).run P w = .ok m w ∧ (Builtin.firstCells s m x).run P w = .ok l.toArray w ∧ l.length = m * s := by
  unfold srcL at hx
  split at hx
  · split at hx
    · rename_i he
      split at hx
      · rename_i hm
        cases hx
        obtain ⟨e, hu, _⟩ := elemI_sl he
        subst hm
        exact ⟨⟨_, hu, by simp⟩, by simp [Builtin.lenOf], by simp [Builtin.firstCells], by simp⟩
      · cases hx
    · cases hx
  · rename_i b o n c
    split at hx
    · rename_i he
      obtain ⟨e, hu, _⟩ := elemI_sl he
      split at hx
      · rename_i l' hl
        cases hx
        obtain ⟨h1, h2⟩ := h.cellsAt hl
        refine ⟨⟨_, hu, by simp⟩, by simp [Builtin.lenOf], ?_, h1⟩
        simp only [Builtin.firstCells, loadCells]
        rw [run_loadCellsFrom _ 0 l #[] h1 (by simpa using h2)]
        simp
      · split at hx
        · rename_i hm
          cases hx
          subst hm
          exact ⟨⟨_, hu, by simp⟩, by simp [Builtin.lenOf], by simp [Builtin.firstCells, loadCells, loadCellsFrom], by simp⟩
        · cases hx
    · cases hx
  · split at hx
    · rename_i he
      obtain ⟨e, hu, _⟩ := elemI_sl he
      split at hx
      · rename_i hm
        cases hx
        subst hm
        exact ⟨⟨_, hu, by simp⟩, by simp [Builtin.lenOf], by simp [Builtin.firstCells, loadCells, loadCellsFrom], by simp⟩
      · cases hx
    · cases hx
  · rename_i b
    split at hx
    · rename_i hs
      cases hx
      refine ⟨⟨_, isStr_eq hs.1, by simp⟩, by simp [Builtin.lenOf], ?_, by rw [hs.2, Nat.mul_one]; simp [byteV]⟩
      simp only [Builtin.firstCells, Sem.run_pure]
      congr 1
      have : (b.extract 0 b.size).data = b.data := by simp
      rw [this, ← Array.toList_inj]
      simp [byteV]
    · cases hx
  · cases hx

def two47 : Nat := 140737488355328

def evAppend (P : Program) (H : Hp) (st xt : TypeId) (s x : Value) (K : Value → Hp → Prop) : Prop :=
  match slI P st with
  | none => False
  | some (e, sz, by_) => match srcL P H xt x sz with
    | none => False
    | some (ys, m) => match s with
      | .slice none n c => (n = 0 ∧ c = 0) ∧ (m = 0 → K (.slice none 0 0) H) ∧ (0 < m → m * by_ ≤ two47 ∧ ∀ b c', fresh b H → m ≤ c' → K (.slice (some ⟨b, 0, none⟩) m c') (⟨b, 0, .vec e sz c', ys⟩ :: H))
      | .slice (some ⟨b, o, none⟩) n c => match findE H b with
        | some ⟨_, _, .vec e' sz' cap, xs⟩ => (o = 0 ∧ e' = e ∧ sz' = sz ∧ cap = c ∧ xs.length = n * sz) ∧ (n + m) * by_ ≤ two47 ∧ ys.all oneC = true ∧
            ∀ b' c', fresh b' (remE H b) → n + m ≤ c' → K (.slice (some ⟨b', 0, none⟩) (n + m) c') (⟨b', 0, .vec e sz c', xs ++ ys⟩ :: remE H b)
        | _ => False
      | _ => False

theorem marks_remE {b : Nat} : ∀ {H : Hp} {e : Ent}, findE H b = some e → (∀ o, e.kind ≠ .obj o) → marksOf (remE H b) = marksOf H
  | [], _, h, _ => by simp [findE] at h
  | x :: r, e, h, hk => by
    simp only [findE, remE] at h ⊢
    by_cases hb : b = x.blk
    · rw [if_pos hb] at h ⊢
      cases h
      simp only [marksOf]
      split
      · rename_i hk'; exact absurd hk' (hk _)
      · rfl
    · rw [if_neg hb] at h ⊢
      simp only [marksOf, marks_remE h hk]

theorem run_zeroCells_sz (zs : Array Value) (n : Nat) : (Builtin.zeroCells zs n).size = n * zs.size := by simp [Builtin.zeroCells]

theorem Sat.drew' {w0 w : World} {mu : Nat → Prop} {H : Hp} (h : Sat w0 mu H w) : Sat w0 mu H w.drew := h.drew

/-- the cells of a slice's value that is nil, or a row of the call's own -/
theorem run_appendRoom {P : Program} {w : World} {st xt ty e : TypeId} {i : TypeInfo} {d : TypeDesc} {b n c m : Nat} {x : Value} {cs : Array Value} {ys : List Value} (tys : Array TypeId) (h0 : tys[0]? = some st) (h1 : tys[1]? = some xt)
    (hu : P.underlying st = some (.slice e)) (hi : P.info? e = some i) (hxu : P.underlying xt = some d) (hxd : ∀ k, d ≠ .int k) (hlen : (Builtin.lenOf x).run P w = .ok m w)
    (hcells : (Builtin.firstCells i.size m x).run P w = .ok ys.toArray w) (hb : w.heap[b]? = some (.cells cs e (0, 0))) (hroom : n + m ≤ c) (hfit : n * i.size + ys.length ≤ cs.size) (h1c : ys.all oneC = true) :
    ∃ w', (Builtin.append_ tys ty #[.slice (some ⟨b, 0, none⟩) n c, x]).run P w = .ok (.slice (some ⟨b, 0, none⟩) (n + m) c) w' ∧ Turn b w w' ∧ w'.heap[b]? = some (.cells (setSeg cs.toList (n * i.size) ys).toArray e (0, 0)) := by
  obtain ⟨w', s1, s2, s3⟩ := run_storeRow (P := P) (o := n * i.size) ys 0 cs w hb (by simpa using hfit) h1c
  refine ⟨w', ?_, s2, by simpa using s3⟩
  have hx0 : (match d with | .int _ => true | _ => false) = false := by
    cases d <;> first | rfl | exact absurd rfl (hxd _)
  have hadd := add_mk b 0 (n * i.size)
  rw [Nat.zero_add] at hadd
  simp [Builtin.append_, h0, h1, run_underlying hu, run_underlying hxu, sizeOf, typeInfo, hi, hlen, hcells, hroom, hadd, s1]

theorem run_appendGrow {P : Program} {w : World} {st xt ty e : TypeId} {i : TypeInfo} {z : Value} {d : TypeDesc} {base : Option Addr} {n c m : Nat} {x : Value} {xs ys : List Value} (tys : Array TypeId) (h0 : tys[0]? = some st) (h1 : tys[1]? = some xt)
    (hu : P.underlying st = some (.slice e)) (hi : P.info? e = some i) (hz : i.zero = some z) (hxu : P.underlying xt = some d) (hxd : ∀ k, d ≠ .int k) (hlen : (Builtin.lenOf x).run P w = .ok m w)
    (hcells : (Builtin.firstCells i.size m x).run P w.drew = .ok ys.toArray w.drew) (hxs : (Builtin.firstCells i.size n (.slice base n c)).run P w.drew = .ok xs.toArray w.drew)
    (hg : c < n + m) (hb0 : 0 < i.bytes) (hfit : (n + m) * i.bytes ≤ two47) :
    ∃ c', n + m ≤ c' ∧ (Builtin.append_ tys ty #[.slice base n c, x]).run P w = .ok (.slice (some ⟨w.heap.size, 0, none⟩) (n + m) c') (w.drew.alloc (.cells (xs.toArray ++ ys.toArray ++ Builtin.zeroCells z.cells (c' - (n + m))) e)) := by
  refine ⟨grownCap w (n + m) c e, grownCap_ge w _ _ _, ?_⟩
  have hx0 : (match d with | .int _ => true | _ => false) = false := by
    cases d <;> first | rfl | exact absurd rfl (hxd _)
  have hn : ¬ (n + m ≤ c) := by omega
  have h48 := growslice_fits hg hfit
  have h48' : ¬ (281474976710656 < Builtin.nextslicecap (n + m) c * i.bytes) := by omega
  have h63' : ¬ (i.bytes = 0) := by omega
  simp [Builtin.append_, h0, h1, run_underlying hu, run_underlying hxu, sizeOf, typeInfo, zeroValue, hi, hz, hlen, hn, h48', h63', Question.forced, hcells, hxs, newRow, grownCap]
  rw [← List.append_toArray, Array.append_assoc]

theorem Sat.append {P : Program} {w0 w : World} {mu : Nat → Prop} {H : Hp} (h : Sat w0 mu H w) {st xt ty : TypeId} {s x : Value} {K : Value → Hp → Prop} (hk : evAppend P H st xt s x K) (tys : Array TypeId) (h0 : tys[0]? = some st) (h1 : tys[1]? = some xt) :
    ∃ v H' w', (Builtin.append_ tys ty #[s, x]).run P w = .ok v w' ∧ K v H' ∧ Sat w0 mu H' w' ∧ marksOf H' = marksOf H := by
  unfold evAppend at hk
  split at hk
  · exact hk.elim
  rename_i e sz by_ hsl
  obtain ⟨hu, i, z, hi, hz, hzs, hsi, hby, hs0, hb0⟩ := slI_eq hsl
  subst hsi; subst hby
  split at hk
  · exact hk.elim
  rename_i ys m hsrc
  obtain ⟨⟨d, hxu, hxd⟩, hlen, hcells, hyl⟩ := run_srcL h hsrc
  obtain ⟨_, _, hcells', _⟩ := run_srcL h.drew' hsrc
  split at hk
  · rename_i n c
    obtain ⟨⟨rfl, rfl⟩, hm0, hm1⟩ := hk
    rcases Nat.eq_zero_or_pos m with hm | hm
    · subst hm
      have hx0 : (match d with | .int _ => true | _ => false) = false := by
        cases d <;> first | rfl | exact absurd rfl (hxd _)
      refine ⟨_, H, w, ?_, hm0 rfl, h, rfl⟩
      simp [Builtin.append_, h0, h1, run_underlying hu, run_underlying hxu, sizeOf, typeInfo, hi, hlen, hcells]
    · obtain ⟨hbound, hK⟩ := hm1 hm
      obtain ⟨c', hc', hrun⟩ := run_appendGrow (P := P) (w := w) (base := none) (n := 0) (c := 0) (xs := []) (ty := ty) tys h0 h1 hu hi hz hxu hxd hlen hcells' (by simp [Builtin.firstCells]) (by omega) hb0 (by simpa using hbound)
      rw [Nat.zero_add] at hrun hc'
      refine ⟨_, _, _, hrun, hK w.heap.size c' h.fresh_size hc', ?_, by simp [marksOf]⟩
      refine h.drew'.alloc rfl ?_
      unfold Ent.holds
      refine ⟨rfl, _, World.alloc_heap_new _ _, ?_, ?_, ?_⟩
      · rw [Array.size_append, run_zeroCells_sz, hzs]
        simp only [List.append_toArray, List.nil_append, List.size_toArray, hyl]
        rw [← Nat.add_mul]; congr 1; omega
      · rw [hyl]; exact Nat.mul_le_mul_right _ hc'
      · intro k v hk
        rw [Array.getElem?_append_left (by simpa using (List.getElem?_eq_some_iff.1 hk).1)]
        simpa using hk
  · rename_i b o n c
    split at hk
    case h_2 => exact hk.elim
    rename_i blk off e' sz' cap xs he
    obtain ⟨⟨rfl, rfl, rfl, rfl, hxl⟩, hbound, h1c, hK⟩ := hk
    obtain ⟨hm, hb⟩ := findE_mem he
    dsimp only at hb
    subst hb
    have hh := h.ents _ hm
    unfold Ent.holds at hh
    dsimp only at hh
    obtain ⟨rfl, cs, hcs, hsize, hle, hpre⟩ := hh
    have hwr : Ent.wr ⟨blk, 0, .vec e' i.size cap, xs⟩ := trivial
    have hown : mu blk ∨ w0.heap.size ≤ blk := h.own _ hm hwr
    have hap : (remE H blk).Pairwise fun e f => (e.wr ∨ f.wr) → e.blk ≠ f.blk := h.apart.sublist (remE_sub H blk)
    have hne : ∀ x ∈ remE H blk, x.blk ≠ blk := remE_ne hwr h.apart he
    have hmk : marksOf (remE H blk) = marksOf H := marks_remE he (by intro o; simp)
    by_cases hroom : n + m ≤ cap
    · have hfit : n * i.size + ys.length ≤ cs.size := by
        rw [hyl, hsize, ← Nat.add_mul]; exact Nat.mul_le_mul_right _ hroom
      obtain ⟨w', hrun, ht, hw'⟩ := run_appendRoom (P := P) (ty := ty) tys h0 h1 hu hi hxu hxd hlen hcells hcs hroom hfit h1c
      refine ⟨_, _, w', hrun, hK blk cap (fresh_of hne) hroom, ?_, by simpa [marksOf] using hmk⟩
      refine h.front ht hown rfl ?_ (fun x hx => ⟨(remE_sub H blk).subset hx, hne x hx⟩) hap
      have hfl : n * i.size + ys.length ≤ cs.toList.length := by simpa using hfit
      unfold Ent.holds
      refine ⟨rfl, _, hw', by rw [List.size_toArray, setSeg_length hfl]; simpa using hsize, ?_, fun k v hk => ?_⟩
      · rw [List.length_append, hxl, hyl, ← Nat.add_mul]; exact Nat.mul_le_mul_right _ hroom
      · dsimp only at hk
        rw [List.getElem?_toArray, setSeg_get hfl]
        have hkl := (List.getElem?_eq_some_iff.1 hk).1
        rw [List.length_append, hxl] at hkl
        by_cases hlt : k < n * i.size
        · rw [if_neg (by omega)]
          rw [List.getElem?_append_left (by rw [hxl]; exact hlt)] at hk
          simpa using hpre k v hk
        · rw [if_pos ⟨by omega, by omega⟩]
          rw [List.getElem?_append_right (by rw [hxl]; omega), hxl] at hk
          exact hk
    · have hcell : Ev.cellsAt H blk 0 (n * i.size) = some xs := by
        simp only [Ev.cellsAt, he, Nat.le_refl, if_true, Nat.sub_self, subL]
        rw [if_pos (by omega), ← hxl]
        simp
      have hxs : (Builtin.firstCells i.size n (.slice (some ⟨blk, 0, none⟩) n cap)).run P w.drew = .ok xs.toArray w.drew := by
        obtain ⟨c1, c2⟩ := h.drew'.cellsAt hcell
        simp only [Builtin.firstCells, loadCells]
        rw [run_loadCellsFrom _ 0 xs #[] c1 (by simpa using c2)]
        simp
      obtain ⟨c', hc', hrun⟩ := run_appendGrow (P := P) (w := w) (ty := ty) tys h0 h1 hu hi hz hxu hxd hlen hcells' hxs (by omega) hb0 hbound
      refine ⟨_, _, _, hrun, hK w.heap.size c' ?_ hc', ?_, by simpa [marksOf] using hmk⟩
      · exact fresh_of fun x hx => by have := Ent.lt (h.ents x ((remE_sub H blk).subset hx)); omega
      · refine (h.drew'.weak (remE_sub H blk)).alloc rfl ?_
        unfold Ent.holds
        refine ⟨rfl, _, World.alloc_heap_new _ _, ?_, ?_, ?_⟩
        · rw [Array.size_append, run_zeroCells_sz, hzs]
          simp only [List.append_toArray, List.size_toArray, List.length_append, hyl, hxl]
          rw [← Nat.add_mul, ← Nat.add_mul]; congr 1; omega
        · rw [List.length_append, hyl, hxl, ← Nat.add_mul]; exact Nat.mul_le_mul_right _ hc'
        · intro k v hk
          rw [Array.getElem?_append_left (by simpa using (List.getElem?_eq_some_iff.1 hk).1)]
          simpa using hk
  · exact hk.elim
end Go.Ev
