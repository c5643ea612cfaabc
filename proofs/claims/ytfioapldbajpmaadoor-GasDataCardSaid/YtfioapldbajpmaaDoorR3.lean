/- R3: pairs of lists, and declared keys, as a row hands them. -/
import Derived.Test.YtfioapldbajpmaaDoorR0
import Derived.Test.YtfioapldbajpmaaDoorKe
set_option linter.unusedSimpArgs false
set_option linter.unusedVariables false
namespace Go.Ev
open Go.ChangeShapes Go.WideShapes Go.ChangeAt Go.RowKit
section
variable {H : Type} {enc : TypeId × Value → H} {P : Program} {w : World} {base : Nat} {spare : Nat → Bool} {held : Bool} {T : TypeId → Prop}
/-- a slice of flat elements, by its cell -/
theorem slice_of_cells (K : Kids P T) {d fuel : Nat} {t e : TypeId} {ks : List FK} {cs : List Value} {x : DataW H × List MemPlace} (ht : P.underlying t = some (.slice e)) (hT : T t) (hks : flatT P d e = some ks) (hpos : 0 < P.cellsOf e)
    (hf : DataW.trod enc P w base spare held fuel t cs = some x) : ∃ (p : Option Addr) (len cap : Nat) (f : Nat → List Value), cs = [.slice p len cap] ∧ len ≤ cap ∧ cap ≤ maxLen ∧ (∀ i, i < len → All2 FK.ok ks (f i)) ∧
      (len = 0 ∨ ∃ b o, p = some ⟨b, o, none⟩ ∧ cellsAt (roW w) b o (len * P.cellsOf e) = some ((List.range len).flatMap f)) := by
  obtain ⟨dd, ps⟩ := x
  rcases Deep.open_slice ht hf with ⟨h1, _⟩ | ⟨a', len, cap, m, n, D, Pl, h1, hb, hl, hm, hmm, _, hx⟩
  · exact ⟨none, 0, 0, fun _ => [], h1, Nat.le_refl _, Nat.zero_le _, fun i hi => absurd hi (Nat.not_lt_zero _), .inl rfl⟩
  · have hlm : len ≤ m := by rw [hmm]; split <;> omega
    obtain ⟨f, hf⟩ := Deep.choose_lt (α := List Value) (n := len) (p := fun i cs' => w.cells? base (a'.add (i * P.cellsOf e)) (P.cellsOf e) = some cs' ∧ All2 FK.ok ks cs') fun i hi => by
      obtain ⟨cs', h2, h3⟩ := hx i (by omega)
      exact ⟨cs', h2, flat_of_trod K d (K.slice hT ht) hks h3⟩
    refine ⟨some a', len, cap, f, h1, hl, hm, fun i hi => (hf i hi).2, ?_⟩
    rcases Nat.eq_zero_or_pos len with h0 | h0
    · exact .inl h0
    · obtain ⟨h4, h5⟩ := roW_row f hpos (fun i hi => (hf i hi).1) h0
      refine .inr ⟨a'.block, a'.off, ?_, h5⟩
      rw [← h4]
/-- the same, as a list of things -/
theorem liR_of_cells (K : Kids P T) {α : Type} {c : α → List Value} {s d fuel : Nat} {t e : TypeId} {ks : List FK} {cs : List Value} {x : DataW H × List MemPlace} (Q : α → Prop) (hc : ∀ cs, All2 FK.ok ks cs → ∃ y, cs = c y ∧ Q y) (ht : P.underlying t = some (.slice e)) (hT : T t) (hks : flatT P d e = some ks) (hpos : 0 < s) (hs : P.cellsOf e = s)
    (hf : DataW.trod enc P w base spare held fuel t cs = some x) : ∃ l p cap, cs = [.slice p l.length cap] ∧ LiR c s (roW w) l (.slice p l.length cap) ∧ l.length ≤ cap ∧ cap ≤ maxLen ∧ ∀ y ∈ l, Q y := by
  obtain ⟨p, len, cap, f, rfl, hl, hm, hf, hcc⟩ := slice_of_cells K ht hT hks (by omega) hf
  by_cases h0 : len = 0
  · subst h0
    exact ⟨[], p, cap, rfl, ⟨p, cap, rfl, .inl rfl⟩, hl, hm, fun y hy => by cases hy⟩
  obtain ⟨y0, _, _⟩ := hc _ (hf 0 (Nat.pos_of_ne_zero h0))
  haveI : Inhabited α := ⟨y0⟩
  obtain ⟨g, hg⟩ := Deep.choose_lt (α := α) (n := len) (p := fun i y => f i = c y ∧ Q y) fun i hi => hc _ (hf i hi)
  refine ⟨(List.range len).map g, p, cap, by simp, ⟨p, cap, by simp, ?_⟩, by simpa using hl, hm, fun y hy => ?_⟩
  · rcases hcc with rfl | ⟨b, o, rfl, hcc⟩
    · exact .inl rfl
    · refine .inr ⟨b, o, rfl, ?_⟩
      rw [hs] at hcc
      simp only [List.length_map, List.length_range]
      rw [hcc, List.flatMap_map, List.flatMap_def, List.flatMap_def]
      congr 2
      exact List.map_congr_left fun i hi => (hg i (List.mem_range.1 hi)).1
  · obtain ⟨i, hi, rfl⟩ := List.mem_map.1 hy
    exact (hg i (List.mem_range.1 hi)).2
theorem All2.split {α β : Type} {r : α → β → Prop} : ∀ {l l' : List α} {m : List β}, All2 r (l ++ l') m → ∃ m1 m2, m = m1 ++ m2 ∧ All2 r l m1 ∧ All2 r l' m2
  | [], _, m, h => ⟨[], m, rfl, .nil, h⟩
  | x :: l, l', _, h => by
    cases h with
    | cons a h =>
      obtain ⟨m1, m2, rfl, h1, h2⟩ := All2.split h
      exact ⟨_, m2, rfl, .cons a h1, h2⟩
theorem u8_wf {n : Int} (h : (Lit.int .u8 n).wf = true) : ∃ m : UInt8, n = m.toNat := by
  simp [Lit.wf, IntKind.min, IntKind.max, IntKind.signed, IntKind.bits] at h
  refine ⟨UInt8.ofNat n.toNat, ?_⟩
  rw [UInt8.toNat_ofNat']
  omega
theorem bytes_cells : ∀ {n : Nat} {cs : List Value}, All2 FK.ok (List.replicate n (.int .u8)) cs → ∃ l : List UInt8, l.length = n ∧ cs = byteV l
  | 0, _, h => by cases h; exact ⟨[], rfl, rfl⟩
  | n + 1, _, h => by
    rw [List.replicate_succ] at h
    cases h with
    | cons a h =>
      obtain ⟨x, rfl, wx⟩ := a
      obtain ⟨y, rfl⟩ := u8_wf wx
      obtain ⟨l, rfl, rfl⟩ := bytes_cells h
      exact ⟨y :: l, rfl, rfl⟩
end
end Go.Ev
namespace Go.Proofs.YtfioapldbajpmaaDoor
open Go Go.Ev Go.Proofs Go.ChangeShapes Go.WideShapes Go.ChangeAt Go.RowKit
set_option maxRecDepth 100000
set_option maxHeartbeats 4000000
theorem pr_cells {cs : List Value} (h : All2 FK.ok [.int .i64, .int .i64] cs) : ∃ x : Int × Int, cs = prV x ∧ i64In x.1 ∧ i64In x.2 := by
  cases h with
  | cons a1 h => cases h with
    | cons a2 h =>
      cases h
      obtain ⟨x, rfl, wx⟩ := a1
      obtain ⟨y, rfl, wy⟩ := a2
      exact ⟨(x, y), rfl, i64_wf wx, i64_wf wy⟩
theorem key_cells {cs : List Value} (h : All2 FK.ok (List.replicate 20 (.int .u8) ++ [.bool, .int .u64, .int .u64, .int .u64, .int .u64]) cs) : ∃ k : KeyT, cs = k.cells ∧ True := by
  obtain ⟨m1, m2, rfl, h1, h2⟩ := All2.split h
  obtain ⟨l, hl, rfl⟩ := bytes_cells h1
  cases h2 with
  | cons a h2 =>
    obtain ⟨b, rfl⟩ := a
    obtain ⟨w, rfl⟩ := word_cells h2
    exact ⟨⟨l, b, w, hl⟩, rfl, trivial⟩
theorem sets2_of {H : Type} {enc : TypeId × Value → H} {W0 : World} {r : Reach} {b0 base : Nat} {spare : Nat → Bool} {held : Bool} {v : Value} {dd : DataW H} {ps : List MemPlace} (hval : Value.okWide Tryd.prog W0 r b0 27 v)
    (h : DataW.Trod enc Tryd.prog W0 base spare held 27 v dd ps) : ∃ u0 u1 l0 l1, v = .agg #[u0, u1] ∧ LiR prV 2 (roW W0) l0 u0 ∧ LiR prV 2 (roW W0) l1 u1 ∧ (∀ x ∈ l0, i64In x.1 ∧ i64In x.2) ∧ (∀ x ∈ l1, i64In x.1 ∧ i64In x.2) := by
  have hu : Tryd.prog.underlying 27 = some (.array 2 26) := by kernel_rfl
  have h1 : Tryd.prog.cellsOf 26 = 1 := by decide +kernel
  simp only [Value.okWide, hu] at hval
  obtain ⟨cs, rfl, h2, _⟩ := hval
  obtain ⟨fuel, hf⟩ := h
  obtain ⟨xs, m, _, _, hcs, hxs, hi⟩ := DataW.trod_array hu hf
  rw [h1] at hi
  have hlen : cs.toList.length = 2 := by rw [Array.length_toList, h2]; decide +kernel
  obtain ⟨c0, c1, hc⟩ : ∃ c0 c1, cs.toList = [c0, c1] := by
    match h3 : cs.toList, hlen with
    | [c0, c1], _ => exact ⟨c0, c1, rfl⟩
  have e : (Value.agg cs).cells.toList = [c0, c1] := hc
  rw [e] at hi
  have i0 := hi 0 (by decide)
  have i1 := hi 1 (by decide)
  rw [List.getElem?_eq_getElem (by omega)] at i0 i1
  obtain ⟨l0, p0, k0, g0, r0, _, _, q0⟩ := liR_of_cells kids (c := prV) (s := 2) (d := 8) (e := 88) (ks := [.int .i64, .int .i64]) _ (fun _ => pr_cells) (by kernel_rfl) (by show _ < _; decide +kernel) (by kernel_rfl) (by decide) (by decide +kernel) i0
  obtain ⟨l1, p1, k1, g1, r1, _, _, q1⟩ := liR_of_cells kids (c := prV) (s := 2) (d := 8) (e := 88) (ks := [.int .i64, .int .i64]) _ (fun _ => pr_cells) (by kernel_rfl) (by show _ < _; decide +kernel) (by kernel_rfl) (by decide) (by decide +kernel) i1
  injection g0 with g0
  injection g1 with g1
  refine ⟨c0, c1, l0, l1, ?_, ?_, ?_, q0, q1⟩
  · rw [show (#[c0, c1] : Array Value) = [c0, c1].toArray from rfl, ← hc]
  · rw [g0]; exact r0
  · rw [g1]; exact r1
/-- the fields of a struct: where they stand, their types, their sizes -/
def fieldsOf (P : Program) (t : TypeId) : List (Nat × TypeId × Nat) := match P.underlying t with
  | some (.struct fs) => fs.toList.map fun f => (f.offset, f.type, P.cellsOf f.type)
  | _ => []
theorem field_of {P : Program} {t : TypeId} {l : List (Nat × TypeId × Nat)} (h : fieldsOf P t = l) (hl : l ≠ []) : ∃ fs, P.underlying t = some (.struct fs) ∧ ∀ (j : Nat) x, l[j]? = some x → ∃ f, fs[j]? = some f ∧ f.offset = x.1 ∧ f.type = x.2.1 ∧ P.cellsOf f.type = x.2.2 := by
  unfold fieldsOf at h
  split at h
  · rename_i fs hu
    refine ⟨fs, hu, fun j x hx => ?_⟩
    rw [← h, List.getElem?_map] at hx
    obtain ⟨f, hf, rfl⟩ := Option.map_eq_some_iff.1 hx
    exact ⟨f, by simpa using hf, rfl, rfl, rfl⟩
  · exact absurd h.symm hl
theorem sets_of {H : Type} {enc : TypeId × Value → H} {W0 : World} {r : Reach} {b0 base : Nat} {spare : Nat → Bool} {held : Bool} {v : Value} {dd : DataW H} {ps : List MemPlace} (hval : Value.okWide Tryd.prog W0 r b0 30 v)
    (h : DataW.Trod enc Tryd.prog W0 base spare held 30 v dd ps) : ∃ u0 u1 l0 l1, v = .agg #[u0, u1] ∧ LiR KeyT.cells 25 (roW W0) l0 u0 ∧ LiR KeyT.cells 25 (roW W0) l1 u1 ∧ (∀ p n k, u0 = .slice p n k → n ≤ k) ∧ (∀ p n k, u1 = .slice p n k → n ≤ k) := by
  obtain ⟨fs, hu, hfs⟩ := field_of (P := Tryd.prog) (t := 30) (l := [(0, 28, 1), (1, 28, 1)]) (by kernel_rfl) (by simp)
  simp only [Value.okWide, hu] at hval
  obtain ⟨cs, rfl, h2, _⟩ := hval
  obtain ⟨fuel, hf⟩ := h
  obtain ⟨xs, m, _, _, hcs, hxs, hi⟩ := DataW.trod_struct hu hf
  have hlen : cs.toList.length = 2 := by rw [Array.length_toList, h2]; decide +kernel
  obtain ⟨c0, c1, hc⟩ : ∃ c0 c1, cs.toList = [c0, c1] := by
    match h3 : cs.toList, hlen with
    | [c0, c1], _ => exact ⟨c0, c1, rfl⟩
  have e : (Value.agg cs).cells.toList = [c0, c1] := hc
  rw [e] at hi
  obtain ⟨f0, hf0, o0, t0, s0⟩ := hfs 0 _ rfl
  obtain ⟨f1, hf1, o1, t1, s1⟩ := hfs 1 _ rfl
  have i0 := hi 0 f0 hf0
  have i1 := hi 1 f1 hf1
  have n0 := (Array.getElem?_eq_some_iff.1 hf0).1
  have n1 := (Array.getElem?_eq_some_iff.1 hf1).1
  rw [List.getElem?_eq_getElem (by omega), o0, s0, t0] at i0
  rw [List.getElem?_eq_getElem (by omega), o1, s1, t1] at i1
  obtain ⟨l0, p0, k0, g0, r0, q0, _, _⟩ := liR_of_cells kids (c := KeyT.cells) (s := 25) (d := 8) (e := 58) (ks := List.replicate 20 (.int .u8) ++ [.bool, .int .u64, .int .u64, .int .u64, .int .u64]) _ (fun _ => key_cells) (by kernel_rfl) (by show _ < _; decide +kernel) (by kernel_rfl) (by decide) (by decide +kernel) i0
  obtain ⟨l1, p1, k1, g1, r1, q1, _, _⟩ := liR_of_cells kids (c := KeyT.cells) (s := 25) (d := 8) (e := 58) (ks := List.replicate 20 (.int .u8) ++ [.bool, .int .u64, .int .u64, .int .u64, .int .u64]) _ (fun _ => key_cells) (by kernel_rfl) (by show _ < _; decide +kernel) (by kernel_rfl) (by decide) (by decide +kernel) i1
  injection g0 with g0
  injection g1 with g1
  refine ⟨c0, c1, l0, l1, ?_, ?_, ?_, ?_, ?_⟩
  · rw [show (#[c0, c1] : Array Value) = [c0, c1].toArray from rfl, ← hc]
  · rw [g0]; exact r0
  · rw [g1]; exact r1
  · intro p n k hh; rw [g0] at hh; injection hh with _ hh hk; rw [← hh, ← hk]; exact q0
  · intro p n k hh; rw [g1] at hh; injection hh with _ hh hk; rw [← hh, ← hk]; exact q1
end Go.Proofs.YtfioapldbajpmaaDoor
