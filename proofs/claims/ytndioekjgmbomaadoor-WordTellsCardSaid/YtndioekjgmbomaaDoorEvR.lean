/- EvR: from a law function's contract to its row: what an argument's reading says of memory; the row's closing part. -/
import Derived.Test.YtndioekjgmbomaaDoorEvZ
import Derived.ProofKit
import Derived.Deep.Slices
import Derived.OpenShut
import Derived.ChangeBears
import Derived.ChangeStays
set_option linter.unusedSimpArgs false
set_option linter.unusedVariables false
namespace Go.Ev
open Go.ChangeShapes Go.WideShapes Go.RowKit

/-! ### memory at the call: every block, only read -/
def blkE (w : World) (b : Nat) : Ent := ⟨b, 0, .ro, match w.heap[b]? with | some (.cells cs _ _) => cs.toList | _ => []⟩
def roW (w : World) : Hp := (List.range w.heap.size).map (blkE w)
theorem roW_mem {w : World} {e : Ent} (h : e ∈ roW w) : ∃ b, b < w.heap.size ∧ e = blkE w b := by
  obtain ⟨b, hb, rfl⟩ := List.mem_map.1 h
  exact ⟨b, List.mem_range.1 hb, rfl⟩
theorem roW_sat (w : World) : Sat w (fun _ => False) (roW w) w := by
  refine ⟨rfl, rfl, rfl, Nat.le_refl _, fun _ _ _ => rfl, fun e he => ?_, fun e he hw => ?_, ?_⟩
  · obtain ⟨b, hb, rfl⟩ := roW_mem he
    refine ⟨hb, fun k v hk => ?_⟩
    unfold blkE at hk ⊢
    dsimp only at hk ⊢
    cases ho : w.heap[b]? with
    | none => rw [ho] at hk; simp at hk
    | some o =>
      rw [ho] at hk
      cases o with
      | cells cs t fr =>
        dsimp only at hk
        simp only [World.cell?, ho, Option.isSome_none, Bool.false_eq_true, if_false]
        simpa using hk
      | _ => simp at hk
  · obtain ⟨b, hb, rfl⟩ := roW_mem he
    exact hw.elim
  · refine List.pairwise_iff_forall_sublist.2 fun {a b} hab hw => ?_
    obtain ⟨x, _, rfl⟩ := roW_mem (hab.subset (by simp : a ∈ [a, b]))
    obtain ⟨y, _, rfl⟩ := roW_mem (hab.subset (by simp : b ∈ [_, b]))
    rcases hw with hw | hw <;> exact hw.elim
theorem marks_ro : ∀ {L : Hp}, (∀ e ∈ L, e.kind = .ro) → marksOf L = []
  | [], _ => rfl
  | x :: r, h => by simp only [marksOf, h x (by simp)]; exact marks_ro fun e he => h e (by simp [he])
theorem roW_marks (w : World) : marksOf (roW w) = [] := marks_ro fun e he => by
  obtain ⟨b, _, rfl⟩ := roW_mem he; rfl
theorem find_map {w : World} {b : Nat} : ∀ {l : List Nat}, b ∈ l → findE (l.map (blkE w)) b = some (blkE w b)
  | [], h => by cases h
  | x :: r, h => by
    simp only [List.map_cons, findE]
    by_cases hx : b = x
    · subst hx; rw [if_pos (show b = (blkE w b).blk from rfl)]
    · rw [if_neg (show ¬ b = (blkE w x).blk from hx)]
      exact find_map ((List.mem_cons.1 h).resolve_left hx)
theorem roW_find {w : World} {b : Nat} (h : b < w.heap.size) : findE (roW w) b = some (blkE w b) := find_map (List.mem_range.2 h)
theorem cells?_get {w : World} {base n : Nat} {a : Addr} {cs : List Value} (h : w.cells? base a n = some cs) : cs.length = n ∧ ∀ i, i < n → w.cell? (a.add i) = cs[i]? := by
  unfold World.cells? at h
  split at h
  · refine ⟨by simpa using mapM_some_length h, fun i hi => ?_⟩
    exact mapM_some_get h i i (by simp [hi])
  · cases h
theorem cell?_spot {w : World} {a : Addr} {v : Value} (h : w.cell? a = some v) : a.spot = none ∧ ∃ cs t fr, w.heap[a.block]? = some (.cells cs t fr) ∧ cs[a.off]? = some v := by
  unfold World.cell? at h
  split at h
  · rename_i c t fr ho
    split at h
    · cases h
    · rename_i hs
      exact ⟨by cases hs2 : a.spot <;> simp_all, c, t, fr, ho, h⟩
  · cases h
theorem roW_cells {w : World} {base n : Nat} {a : Addr} {cs : List Value} (h : w.cells? base a n = some cs) (hn : 0 < n) : a.spot = none ∧ cellsAt (roW w) a.block a.off n = some cs := by
  obtain ⟨hl, hg⟩ := cells?_get h
  have h0 := hg 0 hn
  rw [List.getElem?_eq_getElem (by omega)] at h0
  have e0 : a.add 0 = a := by unfold Addr.add; rw [if_pos rfl]
  rw [e0] at h0
  obtain ⟨hs, c, t, fr, ho, hc⟩ := cell?_spot h0
  have hlt : a.block < w.heap.size := (Array.getElem?_eq_some_iff.1 ho).1
  have hget : ∀ i, i < n → c.toList[a.off + i]? = cs[i]? := fun i hi => by
    have h1 := hg i hi
    rw [List.getElem?_eq_getElem (by omega)] at h1
    obtain ⟨_, c', t', fr', ho', hc'⟩ := cell?_spot h1
    have eb : (a.add i).block = a.block := by unfold Addr.add; split <;> rfl
    have eo : (a.add i).off = a.off + i := by unfold Addr.add; split <;> simp_all
    rw [eb, ho] at ho'
    cases ho'
    rw [eo] at hc'
    rw [List.getElem?_eq_getElem (l := cs) (i := i) (by omega)]
    simpa using hc'
  have hlen : a.off + n ≤ c.toList.length := by
    have h1 := hget (n - 1) (by omega)
    rw [List.getElem?_eq_getElem (l := cs) (by omega)] at h1
    have := (List.getElem?_eq_some_iff.1 h1).1
    omega
  refine ⟨hs, ?_⟩
  unfold cellsAt
  rw [roW_find hlt]
  have ec : (blkE w a.block).cells = c.toList := by unfold blkE; rw [ho]
  have eo : (blkE w a.block).off = 0 := rfl
  dsimp only
  rw [ec, eo, if_pos (Nat.zero_le _), Nat.sub_zero]
  unfold subL
  rw [if_pos hlen]
  congr 1
  refine List.ext_getElem? fun i => ?_
  by_cases hi : i < n
  · rw [List.getElem?_take_of_lt hi, List.getElem?_drop, hget i hi]
  · rw [List.getElem?_eq_none (by simp; omega), List.getElem?_eq_none (by omega)]
theorem cellsAt_append {H : Hp} {b o n m : Nat} {A B : List Value} (h1 : cellsAt H b o n = some A) (h2 : cellsAt H b (o + n) m = some B) : cellsAt H b o (n + m) = some (A ++ B) := by
  unfold cellsAt at *
  cases hf : findE H b with
  | none => rw [hf] at h1; cases h1
  | some e =>
    rw [hf] at h1 h2
    dsimp only at h1 h2 ⊢
    split at h1
    case isFalse => cases h1
    rename_i ho
    rw [if_pos (by omega)] at h2
    rw [if_pos ho]
    unfold subL at *
    split at h1
    case isFalse => cases h1
    rename_i hl1
    split at h2
    case isFalse => cases h2
    rename_i hl2
    rw [if_pos (by omega)]
    rw [← Option.some.inj h1, ← Option.some.inj h2, show o + n - e.off = o - e.off + n by omega, ← List.drop_drop, ← List.take_add]
/-- rows of cells, one behind the other -/
theorem roW_row {w : World} {base s : Nat} {a : Addr} (f : Nat → List Value) (hs : 0 < s) : ∀ {len : Nat}, (∀ i, i < len → w.cells? base (a.add (i * s)) s = some (f i)) → 0 < len →
    a.spot = none ∧ cellsAt (roW w) a.block a.off (len * s) = some ((List.range len).flatMap f) := by
  have eb : ∀ i, (a.add i).block = a.block := fun i => by unfold Addr.add; split <;> rfl
  have eo : ∀ i, (a.add i).off = a.off + i := fun i => by unfold Addr.add; split <;> simp_all
  intro len
  induction len with
  | zero => intro _ h; omega
  | succ len ih =>
    intro h _
    have hl := roW_cells (h len (by omega)) hs
    rw [eb, eo] at hl
    rcases Nat.eq_zero_or_pos len with rfl | hpos
    · refine ⟨?_, ?_⟩
      · have := hl.1; rw [Nat.zero_mul] at this; unfold Addr.add at this; rwa [if_pos rfl] at this
      · simpa using hl.2
    · obtain ⟨i1, i2⟩ := ih (fun i hi => h i (by omega)) hpos
      refine ⟨i1, ?_⟩
      rw [List.range_succ, List.flatMap_append, List.flatMap_singleton, Nat.succ_mul]
      exact cellsAt_append i2 hl.2

/-! ### flat types -/
inductive FK where
  | int (k : IntKind)
  | bool
  | str
def FK.ok : FK → Value → Prop
  | .int k, v => ∃ n, v = .int k n ∧ (Lit.int k n).wf = true
  | .bool, v => ∃ b, v = .bool b
  | .str, v => ∃ s : ByteArray, v = .string s ∧ s.size ≤ maxLen
def flatT (P : Program) : Nat → TypeId → Option (List FK)
  | 0, _ => none
  | d + 1, t => match P.underlying t with
    | some (.int k) => some [.int k]
    | some .bool => some [.bool]
    | some .string => some [.str]
    | some (.array n e) => (flatT P d e).map fun l => (List.replicate n l).flatten
    | some (.struct fs) => (fs.toList.mapM fun f => flatT P d f.type).map List.flatten
    | _ => none
inductive All2 {α β : Type} (r : α → β → Prop) : List α → List β → Prop
  | nil : All2 r [] []
  | cons {a b l m} : r a b → All2 r l m → All2 r (a :: l) (b :: m)
theorem All2.length {α β : Type} {r : α → β → Prop} {l : List α} {m : List β} (h : All2 r l m) : l.length = m.length := by
  induction h with
  | nil => rfl
  | cons _ _ ih => simp [ih]
theorem All2.append {α β : Type} {r : α → β → Prop} {l l' : List α} {m m' : List β} (h : All2 r l m) (h' : All2 r l' m') : All2 r (l ++ l') (m ++ m') := by
  induction h with
  | nil => exact h'
  | cons h1 _ ih => exact .cons h1 ih
/-- pieces, one behind the other -/
theorem All2.pieces {r : FK → Value → Prop} : ∀ (ps : List (List FK)) (cs : List Value), cs.length = (ps.map List.length).sum →
    (∀ i p, ps[i]? = some p → All2 r p ((cs.drop ((ps.take i).map List.length).sum).take p.length)) → All2 r ps.flatten cs
  | [], cs, hl, _ => by
    have : cs = [] := List.length_eq_zero_iff.1 (by simpa using hl)
    subst this; exact .nil
  | p :: ps, cs, hl, h => by
    have h0 := h 0 p rfl
    simp only [List.take_zero, List.map_nil, List.sum_nil, List.drop_zero] at h0
    have hr := All2.pieces ps (cs.drop p.length) (by simp at hl ⊢; omega) fun i q hq => by
      have := h (i + 1) q (by simpa using hq)
      simp only [List.take_succ_cons, List.map_cons, List.sum_cons] at this
      rwa [← List.drop_drop] at this
    rw [List.flatten_cons]
    have := h0.append hr
    rwa [List.take_append_drop] at this
theorem sum_take_le {α : Type} (f : α → Nat) : ∀ (l : List α) (j : Nat) (x : α), l[j]? = some x → ((l.take j).map f).sum + f x ≤ (l.map f).sum
  | [], j, x, h => by simp at h
  | y :: r, 0, x, h => by simp at h; subst h; simp
  | y :: r, j + 1, x, h => by
    have := sum_take_le f r j x (by simpa using h)
    simp only [List.take_succ_cons, List.map_cons, List.sum_cons]; omega
section
variable {H : Type} {enc : TypeId × Value → H} {P : Program} {w : World} {base : Nat} {spare : Nat → Bool} {held : Bool} {T : TypeId → Prop}
theorem flat_of_trod (K : Kids P T) : ∀ (d : Nat) {t : TypeId} {ks : List FK} {fuel : Nat} {cs : List Value} {x : DataW H × List MemPlace}, T t → flatT P d t = some ks → DataW.trod enc P w base spare held fuel t cs = some x → All2 FK.ok ks cs
  | 0, _, _, _, _, _, _, h, _ => by simp [flatT] at h
  | d + 1, t, ks, fuel, cs, x, hT, h, hx => by
    simp only [flatT] at h
    cases hu : P.underlying t with
    | none => rw [hu] at h; cases h
    | some u =>
      rw [hu] at h
      cases u with
      | int k =>
        obtain ⟨n, rfl, _, hw⟩ := DataW.trod_int hu hx
        cases h
        exact .cons ⟨n, rfl, hw⟩ .nil
      | bool =>
        obtain ⟨b, rfl, _⟩ := DataW.trod_bool hu hx
        cases h
        exact .cons ⟨b, rfl⟩ .nil
      | string =>
        obtain ⟨s, rfl, _, hs⟩ := DataW.trod_string hu hx
        cases h
        exact .cons ⟨s, rfl, hs⟩ .nil
      | array n e =>
        obtain ⟨l, hl, rfl⟩ := Option.map_eq_some_iff.1 h
        obtain ⟨he, hc⟩ := K.array hT hu
        obtain ⟨xs, m, _, _, hcs, hxs, hi⟩ := DataW.trod_array hu hx
        have each : ∀ i, i < n → All2 FK.ok l ((cs.drop (i * P.cellsOf e)).take (P.cellsOf e)) := fun i hin => by
          have := hi i hin
          rw [List.getElem?_eq_getElem (by omega)] at this
          exact flat_of_trod K d he hl this
        have hle : ∀ i, i < n → l.length = P.cellsOf e := fun i hin => by
          have := (each i hin).length
          have h2 : (i + 1) * P.cellsOf e ≤ n * P.cellsOf e := Nat.mul_le_mul_right _ hin
          rw [Nat.succ_mul] at h2
          simp only [List.length_take, List.length_drop] at this
          omega
        refine All2.pieces _ _ ?_ fun i p hp => ?_
        · rw [List.map_replicate, List.sum_replicate_nat, hcs, hc]
          rcases Nat.eq_zero_or_pos n with rfl | hn
          · simp
          · rw [hle 0 hn]
        · obtain ⟨hin, hpe⟩ := List.getElem?_eq_some_iff.1 hp
          simp only [List.length_replicate] at hin
          simp only [List.getElem_replicate] at hpe
          subst hpe
          rw [List.take_replicate, List.map_replicate, List.sum_replicate_nat, Nat.min_eq_left (by omega), hle i hin]
          exact each i hin
      | struct fs =>
        obtain ⟨ps, hps, rfl⟩ := Option.map_eq_some_iff.1 h
        obtain ⟨hT', hc, ho⟩ := K.struct hT hu
        obtain ⟨xs, m, _, _, hcs, hxs, hi⟩ := DataW.trod_struct hu hx
        have hpl : ps.length = fs.toList.length := mapM_some_length hps
        have each : ∀ (j : Nat) (f : Field) (p : List FK), fs.toList[j]? = some f → ps[j]? = some p → All2 FK.ok p ((cs.drop f.offset).take (P.cellsOf f.type)) ∧ p.length = P.cellsOf f.type := fun j f p hf hp => by
          have h1 := hi j f (by simpa using hf)
          have hj := (List.getElem?_eq_some_iff.1 hf).1
          have hj' : j < fs.size := by simpa using hj
          rw [List.getElem?_eq_getElem (by omega)] at h1
          have h2 := mapM_some_get hps j f hf
          rw [hp] at h2
          have h3 := flat_of_trod K d (hT' f (List.mem_of_getElem? hf)) h2 h1
          refine ⟨h3, ?_⟩
          have h4 := sum_take_le (fun f : Field => P.cellsOf f.type) fs.toList j f hf
          rw [← hc, ← ho j f hf, ← hcs] at h4
          have h5 := h3.length
          simp only [List.length_take, List.length_drop] at h5
          omega
        have hlen : ps.map List.length = fs.toList.map fun f => P.cellsOf f.type := by
          refine List.ext_getElem? fun j => ?_
          by_cases hj : j < fs.toList.length
          · rw [List.getElem?_map, List.getElem?_map, List.getElem?_eq_getElem hj, List.getElem?_eq_getElem (by omega)]
            simp only [Option.map_some]
            rw [(each j _ _ (List.getElem?_eq_getElem hj) (List.getElem?_eq_getElem (by omega))).2]
          · rw [List.getElem?_eq_none (by simp; omega), List.getElem?_eq_none (by simpa using hj)]
        refine All2.pieces _ _ (by rw [hlen, hcs, hc]) fun j p hp => ?_
        have hj := (List.getElem?_eq_some_iff.1 hp).1
        obtain ⟨f, hf⟩ : ∃ f, fs.toList[j]? = some f := ⟨_, List.getElem?_eq_getElem (by omega)⟩
        obtain ⟨h1, h2⟩ := each j f p hf hp
        rw [List.map_take, hlen, ← List.map_take, ← ho j f hf, h2]
        exact h1
      | _ => cases h
/-- a slice of flat elements, as it lies in memory at the call -/
theorem slice_of_trod (K : Kids P T) {d : Nat} {t e : TypeId} {ks : List FK} {r : Reach} {b0 : Nat} {v : Value} {dd : DataW H} {ps : List MemPlace} (ht : P.underlying t = some (.slice e)) (hT : T t) (hks : flatT P d e = some ks) (hpos : 0 < P.cellsOf e) (hval : Value.okWide P w r b0 t v)
    (h : DataW.Trod enc P w base spare held t v dd ps) : ∃ (p : Option Addr) (len cap : Nat) (f : Nat → List Value), v = .slice p len cap ∧ len ≤ cap ∧ cap ≤ maxLen ∧ (∀ i, i < len → All2 FK.ok ks (f i)) ∧
      (len = 0 ∨ ∃ b o, p = some ⟨b, o, none⟩ ∧ cellsAt (roW w) b o (len * P.cellsOf e) = some ((List.range len).flatMap f)) := by
  obtain ⟨a, len, cap, rfl⟩ := okWide_slice ht hval
  obtain ⟨fuel, hf⟩ := h
  rcases Deep.open_slice ht hf with ⟨h1, _⟩ | ⟨a', len', cap', m, n, D, Pl, h1, hb, hl, hm, hmm, _, hx⟩
  · simp only [Value.cells, List.cons.injEq, Value.slice.injEq, and_true] at h1
    obtain ⟨rfl, rfl, rfl⟩ := h1
    exact ⟨none, 0, 0, fun _ => [], rfl, Nat.le_refl _, Nat.zero_le _, fun i hi => absurd hi (Nat.not_lt_zero _), .inl rfl⟩
  · simp only [Value.cells, List.cons.injEq, Value.slice.injEq, and_true] at h1
    obtain ⟨rfl, rfl, rfl⟩ := h1
    have hlm : len ≤ m := by rw [hmm]; split <;> omega
    obtain ⟨f, hf⟩ := Deep.choose_lt (α := List Value) (n := len) (p := fun i cs' => w.cells? base (a'.add (i * P.cellsOf e)) (P.cellsOf e) = some cs' ∧ All2 FK.ok ks cs') fun i hi => by
      obtain ⟨cs', h2, h3⟩ := hx i (by omega)
      exact ⟨cs', h2, flat_of_trod K d (K.slice hT ht) hks h3⟩
    refine ⟨some a', len, cap, f, rfl, hl, hm, fun i hi => (hf i hi).2, ?_⟩
    rcases Nat.eq_zero_or_pos len with h0 | h0
    · exact .inl h0
    · obtain ⟨h4, h5⟩ := roW_row f hpos (fun i hi => (hf i hi).1) h0
      refine .inr ⟨a'.block, a'.off, ?_, h5⟩
      rw [← h4]
theorem flat_of_Trod (K : Kids P T) {d : Nat} {t : TypeId} {ks : List FK} {v : Value} {dd : DataW H} {ps : List MemPlace} (hT : T t) (hks : flatT P d t = some ks) (h : DataW.Trod enc P w base spare held t v dd ps) : All2 FK.ok ks v.cells.toList := by
  obtain ⟨fuel, hf⟩ := h
  exact flat_of_trod K d hT hks hf
/-! ### the row's closing part -/
theorem kept_of {w w' : World} {may : MemPlace → Prop} (h1 : w'.os = w.os) (h2 : w'.output = w.output) (h3 : ∀ b, b < w.heap.size → w'.heap[b]? = w.heap[b]?) : w.keptBut w' may := by
  refine ⟨h1, h2, fun i hi => ?_⟩
  rw [h3 i hi]
  split
  · rename_i h4 h5
    rw [h4] at h5
    cases h5
    exact ⟨rfl, rfl, rfl, fun _ _ => rfl⟩
  · rename_i h4 h5
    rw [h4] at h5
    cases h5
    exact .inr ⟨rfl, rfl⟩
  · rename_i h4 h5
    rfl
theorem same_at {w w' : World} (h : ∀ b, b < w.heap.size → w'.heap[b]? = w.heap[b]?) {p : MemPlace} (hp : p.block < w.heap.size) : w.sameAt w' p := by
  cases p with
  | cell b off => show w'.cell? _ = w.cell? _; unfold World.cell?; rw [h b hp]
  | map b => exact h b hp
theorem trodAll_again (K : Kids P T) (hsz : ∀ {t e : TypeId}, T t → P.underlying t = some (.slice e) → 0 < P.cellsOf e) {w' : World} {sp' : Nat → Bool} (h : ∀ b, b < w.heap.size → w'.heap[b]? = w.heap[b]?) (hsp : ∀ b, b < w.heap.size → sp' b = true) : ∀ {ts : List TypeId} {vs : List Value} {ds : List (DataW H)} {ps : List MemPlace}, (∀ t ∈ ts, T t) → DataW.TrodAll enc P w base (fun _ => true) true ts vs ds ps → DataW.TrodAll enc P w' base sp' true ts vs ds ps
  | [], vs, ds, ps, _, ht => by
    obtain ⟨rfl, rfl, rfl⟩ := trodAll_nil ht
    exact trodAll_mk0
  | t :: ts, vs, ds, ps, hT, ht => by
    have hlt := DataW.TrodAll.lt ht
    obtain ⟨v, vs', dd, ds', p, q, rfl, rfl, rfl, ⟨n, hn⟩, h2⟩ := trodAll_cons ht
    refine ⟨p, q, ⟨n, ?_⟩, trodAll_again K hsz h hsp (fun t ht => hT t (by simp [ht])) h2, rfl⟩
    exact DataW.trod_stays K hsz (fun hh => by cases hh) (hT t (by simp)) hn (fun x hx => same_at h (hlt x (List.mem_append_left _ hx))) (fun x hx => hsp _ (hlt x (List.mem_append_left _ hx)))
end
theorem law_post {H : Type} {enc : TypeId × Value → H} {P : Program} {f : Func} {s : ChangeSpec} {apart fresh handsOn : Bool} {W W' : World} {args : Array Value} {ds gs : List (DataW H)} {before : List MemPlace} {tb : TypeId}
    (K : Kids P (· < P.types.size)) (hsz : ∀ t e, t < P.types.size → P.underlying t = some (.slice e) → 0 < P.cellsOf e) (hT : ∀ t ∈ f.params.toList, t < P.types.size) (hsv : s.vars = []) (hb : P.underlying tb = some .bool) (hres : f.resultTypes = #[tb])
    (hW : DataW.Whole enc P f.params.toList s.vars apart W args.toList ds gs before) (hfn : s.fn H (ds ++ gs) = { results := [.lit (.bool true)], args := ds })
    (h1 : W'.os = W.os) (h2 : W'.output = W.output) (h3 : ∀ b, b < W.heap.size → W'.heap[b]? = W.heap[b]?) : s.post enc P f apart fresh handsOn false W args (.bool true) W' := by
  have hW2 := hW
  obtain ⟨p, q, hA, hV, rfl, hfz, hnd⟩ := hW
  have hg : gs = [] ∧ q = [] := by rw [hsv] at hV; exact trodVars_none hV
  obtain ⟨rfl, rfl⟩ := hg
  refine ⟨ds, [], p ++ [], [], p, [], hW2, ?_, ?_, ?_, kept_of h1 h2 h3, fun h => by cases h⟩
  · rw [hfn, hres]
    exact trodAll_mk1 (shut_bool hb true)
  · rw [hfn]
    exact trodAll_again K (fun ht hu => hsz _ _ ht hu) h3 (fun b hb => by simpa using hb) hT hA
  · rw [hfn, hsv]; rfl
end Go.Ev
