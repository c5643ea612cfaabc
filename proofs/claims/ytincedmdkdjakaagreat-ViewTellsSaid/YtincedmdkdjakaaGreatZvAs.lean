/- Texts of this claim, merged by program: Rk Rl Rs Bd Be Bf. -/
import Derived.Test.YtincedmdkdjakaaGreatZvAg
import Derived.Test.YtincedmdkdjakaaGreatZvAr
import Derived.Test.YtincedmdkdjakaaGreatZvAm
import Derived.SizedLaws
set_option linter.unusedSimpArgs false
set_option linter.unusedVariables false
namespace Go.Ev
open Go.ChangeShapes Go.WideShapes Go.ChangeAt Go.RowKit
section
variable {H : Type} {enc : TypeId × Value → H} {P : Program} {w : World} {base : Nat} {spare : Nat → Bool} {held : Bool} {T : TypeId → Prop}
theorem slice_of_cells (K : Kids P T) {d fuel : Nat} {t e : TypeId} {ks : List FK} {cs : List Value} {x : DataW H × List MemPlace} (ht : P.underlying t = some (.slice e)) (hT : T t) (hks : flatT P d e = some ks) (hpos : 0 < P.cellsOf e)
    (hf : DataW.trod enc P w base spare held fuel t cs = some x) : ∃ (p : Option Addr) (len cap : Nat) (f : Nat → List Value), cs = [.slice p len cap] ∧ len ≤ cap ∧ cap ≤ maxLen ∧ (∀ i, i < len → All2 FK.ok ks (f i)) ∧
      (len = 0 ∨ ∃ b o, p = some ⟨b, o, none⟩ ∧ cellsAt (roW w) b o (len * P.cellsOf e) = some ((List.range len).flatMap f)) := by
  obtain ⟨dd, ps⟩ := x
  rcases Deep.open_slice ht hf with ⟨h1, _⟩ | ⟨a', len, cap, m, n, D, Pl, h1, hb, hl, hm, hmm, _, hx⟩
  · exact ⟨none, 0, 0, fun _ => [], h1, Nat.le_refl _, Nat.zero_le _, fun i hi => absurd hi (Nat.not_lt_zero _), .inl rfl⟩
  · have hlm : len ≤ m := by rw [hmm]; split <;> omega
    obtain ⟨f, hf⟩ := Deep.choose_lt (α := List Value) (n := len) (p := fun i cs' => w.cells? base (a'.add (i * P.cellsOf e)) (P.cellsOf e) = some cs' ∧ All2 FK.ok ks cs') fun i hi => by
      obtain ⟨cs', h2, h3⟩ := hx i (by omega)
      exact ⟨cs', h2, flat_of_trod K d (K.slice hT ht) hks h3⟩
    refine ⟨some a', len, cap, f, h1, hl, hm, fun i hi => (hf i hi).2, ?_⟩
    rcases Nat.eq_zero_or_pos len with h0 | h0
    · exact .inl h0
    · obtain ⟨h4, h5⟩ := roW_row f hpos (fun i hi => (hf i hi).1) h0
      refine .inr ⟨a'.block, a'.off, ?_, h5⟩
      rw [← h4]
theorem liR_of_cells (K : Kids P T) {α : Type} {c : α → List Value} {s d fuel : Nat} {t e : TypeId} {ks : List FK} {cs : List Value} {x : DataW H × List MemPlace} (Q : α → Prop) (hc : ∀ cs, All2 FK.ok ks cs → ∃ y, cs = c y ∧ Q y) (ht : P.underlying t = some (.slice e)) (hT : T t) (hks : flatT P d e = some ks) (hpos : 0 < s) (hs : P.cellsOf e = s)
    (hf : DataW.trod enc P w base spare held fuel t cs = some x) : ∃ l p cap, cs = [.slice p l.length cap] ∧ LiR c s (roW w) l (.slice p l.length cap) ∧ l.length ≤ cap ∧ cap ≤ maxLen ∧ ∀ y ∈ l, Q y := by
  obtain ⟨p, len, cap, f, rfl, hl, hm, hf, hcc⟩ := slice_of_cells K ht hT hks (by omega) hf
  by_cases h0 : len = 0
  · subst h0
    exact ⟨[], p, cap, rfl, ⟨p, cap, rfl, .inl rfl⟩, hl, hm, fun y hy => by cases hy⟩
  obtain ⟨y0, _, _⟩ := hc _ (hf 0 (Nat.pos_of_ne_zero h0))
  haveI : Inhabited α := ⟨y0⟩
  obtain ⟨g, hg⟩ := Deep.choose_lt (α := α) (n := len) (p := fun i y => f i = c y ∧ Q y) fun i hi => hc _ (hf i hi)
  refine ⟨(List.range len).map g, p, cap, by simp, ⟨p, cap, by simp, ?_⟩, by simpa using hl, hm, fun y hy => ?_⟩
  · rcases hcc with rfl | ⟨b, o, rfl, hcc⟩
    · exact .inl rfl
    · refine .inr ⟨b, o, rfl, ?_⟩
      rw [hs] at hcc
      simp only [List.length_map, List.length_range]
      rw [hcc, List.flatMap_map, List.flatMap_def, List.flatMap_def]
      congr 2
      exact List.map_congr_left fun i hi => (hg i (List.mem_range.1 hi)).1
  · obtain ⟨i, hi, rfl⟩ := List.mem_map.1 hy
    exact (hg i (List.mem_range.1 hi)).2
theorem All2.split {α β : Type} {r : α → β → Prop} : ∀ {l l' : List α} {m : List β}, All2 r (l ++ l') m → ∃ m1 m2, m = m1 ++ m2 ∧ All2 r l m1 ∧ All2 r l' m2
  | [], _, m, h => ⟨[], m, rfl, .nil, h⟩
  | x :: l, l', _, h => by
    cases h with
    | cons a h =>
      obtain ⟨m1, m2, rfl, h1, h2⟩ := All2.split h
      exact ⟨_, m2, rfl, .cons a h1, h2⟩
theorem u8_wf {n : Int} (h : (Lit.int .u8 n).wf = true) : ∃ m : UInt8, n = m.toNat := by
  simp [Lit.wf, IntKind.min, IntKind.max, IntKind.signed, IntKind.bits] at h
  refine ⟨UInt8.ofNat n.toNat, ?_⟩
  rw [UInt8.toNat_ofNat']
  omega
theorem bytes_cells : ∀ {n : Nat} {cs : List Value}, All2 FK.ok (List.replicate n (.int .u8)) cs → ∃ l : List UInt8, l.length = n ∧ cs = byteV l
  | 0, _, h => by cases h; exact ⟨[], rfl, rfl⟩
  | n + 1, _, h => by
    rw [List.replicate_succ] at h
    cases h with
    | cons a h =>
      obtain ⟨x, rfl, wx⟩ := a
      obtain ⟨y, rfl⟩ := u8_wf wx
      obtain ⟨l, rfl, rfl⟩ := bytes_cells h
      exact ⟨y :: l, rfl, rfl⟩
end
end Go.Ev
namespace Go.Proofs.YtincedmdkdjakaaGreat
open Go Go.Ev Go.Proofs Go.ChangeShapes Go.WideShapes Go.ChangeAt Go.RowKit
set_option maxRecDepth 100000
set_option maxHeartbeats 4000000
theorem r4_cells {cs : List Value} (h : All2 FK.ok [.int .i64, .int .i64, .int .i64, .int .i64] cs) : ∃ x : R4, cs = x.cells ∧ x.In := by
  cases h with
  | cons a0 h =>
    cases h with
    | cons a1 h =>
      cases h with
      | cons a2 h =>
        cases h with
        | cons a3 h =>
          cases h
          obtain ⟨x0, rfl, w0⟩ := a0
          obtain ⟨x1, rfl, w1⟩ := a1
          obtain ⟨x2, rfl, w2⟩ := a2
          obtain ⟨x3, rfl, w3⟩ := a3
          exact ⟨⟨x0, x1, x2, x3⟩, rfl, i64_wf w0, i64_wf w1, i64_wf w2, i64_wf w3⟩
theorem raw4_of {H : Type} {enc : TypeId × Value → H} {W0 : World} {r : Reach} {b0 base : Nat} {spare : Nat → Bool} {held : Bool} {v : Value} {dd : DataW H} {ps : List MemPlace} (hval : Value.okWide Tryz.prog W0 r b0 22 v)
    (h : DataW.Trod enc Tryz.prog W0 base spare held 22 v dd ps) : ∃ l, LiR R4.cells 4 (roW W0) l v ∧ ∀ x ∈ l, x.In := by
  have hu : Tryz.prog.underlying 22 = some (.slice 43) := by kernel_rfl
  obtain ⟨a, len, cap, rfl⟩ := okWide_slice hu hval
  obtain ⟨fuel, hf⟩ := h
  obtain ⟨l, p, k, g, r0, _, _, q⟩ := liR_of_cells kids (c := R4.cells) (s := 4) (d := 8) (e := 43) (ks := [.int .i64, .int .i64, .int .i64, .int .i64]) _ (fun _ => r4_cells) hu (by show _ < _; decide +kernel) (by kernel_rfl) (by decide) (by decide +kernel) hf
  simp only [Value.cells, List.cons.injEq, Value.slice.injEq, and_true] at g
  obtain ⟨rfl, rfl, rfl⟩ := g
  exact ⟨l, r0, q⟩
theorem r2_cells {cs : List Value} (h : All2 FK.ok [.int .i64, .int .i64] cs) : ∃ x : R2, cs = x.cells ∧ x.In := by
  cases h with
  | cons a1 h => cases h with
    | cons a2 h =>
      cases h
      obtain ⟨x, rfl, wx⟩ := a1
      obtain ⟨y, rfl, wy⟩ := a2
      exact ⟨⟨x, y⟩, rfl, i64_wf wx, i64_wf wy⟩
theorem rsets_of {H : Type} {enc : TypeId × Value → H} {W0 : World} {r : Reach} {b0 base : Nat} {spare : Nat → Bool} {held : Bool} {v : Value} {dd : DataW H} {ps : List MemPlace} (hval : Value.okWide Tryz.prog W0 r b0 24 v)
    (h : DataW.Trod enc Tryz.prog W0 base spare held 24 v dd ps) : ∃ u0 u1 l0 l1, v = .agg #[u0, u1] ∧ LiR R2.cells 2 (roW W0) l0 u0 ∧ LiR R2.cells 2 (roW W0) l1 u1 ∧ (∀ x ∈ l0, x.In) ∧ (∀ x ∈ l1, x.In) := by
  have hu : Tryz.prog.underlying 24 = some (.array 2 23) := by kernel_rfl
  have h1 : Tryz.prog.cellsOf 23 = 1 := by decide +kernel
  simp only [Value.okWide, hu] at hval
  obtain ⟨cs, rfl, h2, _⟩ := hval
  obtain ⟨fuel, hf⟩ := h
  obtain ⟨xs, m, _, _, hcs, hxs, hi⟩ := DataW.trod_array hu hf
  rw [h1] at hi
  have hlen : cs.toList.length = 2 := by rw [Array.length_toList, h2]; decide +kernel
  obtain ⟨c0, c1, hc⟩ : ∃ c0 c1, cs.toList = [c0, c1] := by
    match h3 : cs.toList, hlen with
    | [c0, c1], _ => exact ⟨c0, c1, rfl⟩
  have e : (Value.agg cs).cells.toList = [c0, c1] := hc
  rw [e] at hi
  have i0 := hi 0 (by decide)
  have i1 := hi 1 (by decide)
  rw [List.getElem?_eq_getElem (by omega)] at i0 i1
  obtain ⟨l0, p0, k0, g0, r0, _, _, q0⟩ := liR_of_cells kids (c := R2.cells) (s := 2) (d := 8) (e := 25) (ks := [.int .i64, .int .i64]) _ (fun _ => r2_cells) (by kernel_rfl) (by show _ < _; decide +kernel) (by kernel_rfl) (by decide) (by decide +kernel) i0
  obtain ⟨l1, p1, k1, g1, r1, _, _, q1⟩ := liR_of_cells kids (c := R2.cells) (s := 2) (d := 8) (e := 25) (ks := [.int .i64, .int .i64]) _ (fun _ => r2_cells) (by kernel_rfl) (by show _ < _; decide +kernel) (by kernel_rfl) (by decide) (by decide +kernel) i1
  injection g0 with g0
  injection g1 with g1
  refine ⟨c0, c1, l0, l1, ?_, ?_, ?_, q0, q1⟩
  · rw [show (#[c0, c1] : Array Value) = [c0, c1].toArray from rfl, ← hc]
  · rw [g0]; exact r0
  · rw [g1]; exact r1
end Go.Proofs.YtincedmdkdjakaaGreat
set_option linter.unusedSimpArgs false
set_option linter.unusedVariables false
namespace Go.Proofs.YtincedmdkdjakaaGreat
open Go Go.Ev Go.Proofs Go.ChangeShapes Go.WideShapes Go.ChangeAt Go.RowKit
set_option maxRecDepth 100000
set_option maxHeartbeats 4000000
theorem int2_of {H : Type} {enc : TypeId × Value → H} {W0 : World} {r : Reach} {b0 base : Nat} {spare : Nat → Bool} {held : Bool} {v : Value} {dd : DataW H} {ps : List MemPlace} (hval : Value.okWide Tryz.prog W0 r b0 25 v)
    (h : DataW.Trod enc Tryz.prog W0 base spare held 25 v dd ps) : ∃ w : R2, v = w.v ∧ w.In := by
  obtain ⟨w, hw, hi⟩ := r2_cells (flat_of_Trod kids (d := 8) (ks := [.int .i64, .int .i64]) (by show _ < _; decide +kernel) (by kernel_rfl) h)
  obtain ⟨e, hu⟩ : ∃ e, Tryz.prog.underlying 25 = some (.array 2 e) := ⟨3, by kernel_rfl⟩
  simp only [Value.okWide, hu] at hval
  obtain ⟨cs, rfl, h2, _⟩ := hval
  refine ⟨w, ?_, hi⟩
  show Value.agg cs = .agg w.cells.toArray
  rw [← hw]
  rfl
end Go.Proofs.YtincedmdkdjakaaGreat
set_option linter.unusedSimpArgs false
set_option linter.unusedVariables false
namespace Go.Proofs.YtincedmdkdjakaaGreat
open Go Go.Ev Go.Proofs Go.ChangeShapes Go.WideShapes Go.ChangeAt Go.RowKit
set_option maxRecDepth 100000
set_option maxHeartbeats 4000000
theorem key_cells {cs : List Value} (h : All2 FK.ok (List.replicate 20 (.int .u8) ++ (.bool :: [.int .u64, .int .u64, .int .u64, .int .u64])) cs) : ∃ x : Ky, cs = x.cells := by
  obtain ⟨m1, m2, rfl, h1, h2⟩ := All2.split h
  obtain ⟨l, hl, rfl⟩ := bytes_cells h1
  cases h2 with
  | cons a0 h3 =>
    obtain ⟨x0, rfl⟩ := a0
    obtain ⟨w, rfl⟩ := word_cells h3
    exact ⟨⟨⟨l, hl⟩, x0, w⟩, rfl⟩
theorem cell_cells {cs : List Value} (h : All2 FK.ok ((List.replicate 20 (.int .u8) ++ (.bool :: [.int .u64, .int .u64, .int .u64, .int .u64])) ++ ([.int .u64, .int .u64, .int .u64, .int .u64] ++ ([.int .i64, .str] ++ [.int .u64, .int .u64, .int .u64, .int .u64]))) cs) : ∃ x : Ce, cs = x.cells := by
  obtain ⟨m1, m2, rfl, h1, h2⟩ := All2.split h
  obtain ⟨k, rfl⟩ := key_cells h1
  obtain ⟨m3, m4, rfl, h3, h4⟩ := All2.split h2
  obtain ⟨w1, rfl⟩ := word_cells h3
  obtain ⟨m5, m6, rfl, h5, h6⟩ := All2.split h4
  obtain ⟨w2, rfl⟩ := word_cells h6
  cases h5 with
  | cons a1 h7 =>
    cases h7 with
    | cons a2 h7 =>
      cases h7
      obtain ⟨x1, rfl, -⟩ := a1
      obtain ⟨x2, rfl, -⟩ := a2
      exact ⟨⟨k, w1, x1, x2, w2⟩, rfl⟩
theorem cell_of {H : Type} {enc : TypeId × Value → H} {W0 : World} {r : Reach} {b0 base : Nat} {spare : Nat → Bool} {held : Bool} {v : Value} {dd : DataW H} {ps : List MemPlace} (hval : Value.okWide Tryz.prog W0 r b0 74 v)
    (h : DataW.Trod enc Tryz.prog W0 base spare held 74 v dd ps) : ∃ w : Ce, v = w.v := by
  obtain ⟨w, hw⟩ := cell_cells (flat_of_Trod kids (d := 8) (by show _ < _; decide +kernel) (by kernel_rfl) h)
  obtain ⟨fs, hu⟩ : ∃ fs, Tryz.prog.underlying 74 = some (.struct fs) := by
    have hs : (match Tryz.prog.underlying 74 with | some (.struct _) => true | _ => false) = true := by kernel_rfl
    split at hs
    · rename_i fs hu; exact ⟨fs, hu⟩
    · cases hs
  simp only [Value.okWide, hu] at hval
  obtain ⟨cs, rfl, h2, _⟩ := hval
  refine ⟨w, ?_⟩
  show Value.agg cs = .agg w.cells.toArray
  rw [← hw]
  rfl
theorem slot_cells2 {cs : List Value} (h : All2 FK.ok ([.int .u64, .int .u64, .int .u64, .int .u64] ++ [.int .u64, .int .u64, .int .u64, .int .u64]) cs) : ∃ x : Sl, cs = x.cells ∧ True := by
  obtain ⟨m1, m2, rfl, h1, h2⟩ := All2.split h
  obtain ⟨w1, rfl⟩ := word_cells h1
  obtain ⟨w2, rfl⟩ := word_cells h2
  exact ⟨⟨w1, w2⟩, rfl, trivial⟩
noncomputable def fsOf (t : TypeId) : Array Field := match Tryz.prog.underlying t with | some (.struct fs) => fs | _ => #[]
theorem account_of {H : Type} {enc : TypeId × Value → H} {W0 : World} {r : Reach} {b0 base : Nat} {spare : Nat → Bool} {held : Bool} {v : Value} {dd : DataW H} {ps : List MemPlace} (hval : Value.okWide Tryz.prog W0 r b0 53 v)
    (h : DataW.Trod enc Tryz.prog W0 base spare held 53 v dd ps) (hz : ∀ n ∈ dd.weights Tryz.prog 53, n ≤ reachBytes) : ∃ (X : Ac) (sx : Value), v = .agg (X.cells sx).toArray ∧ LiR Sl.cells 8 (roW W0) X.slots sx ∧ X.slots.length ≤ 2199023255551 := by
  have hu : Tryz.prog.underlying 53 = some (.struct (fsOf 53)) := by kernel_rfl
  simp only [Value.okWide, hu] at hval
  obtain ⟨cs, rfl, h2, _⟩ := hval
  obtain ⟨fuel, hf⟩ := h
  obtain ⟨xs, m, _, hx, hcs, hxs, hi⟩ := DataW.trod_struct hu hf
  injection hx with hx _
  have hsz : (fsOf 53).size = 5 := by kernel_rfl
  rw [hsz] at hxs
  have e : (Value.agg cs).cells.toList = cs.toList := rfl
  rw [e] at hi hcs
  have h27 : Tryz.prog.cellsOf 53 = 27 := by decide +kernel
  rw [h27] at hcs
  obtain ⟨l, hl⟩ : ∃ l, l = cs.toList := ⟨_, rfl⟩
  rw [← hl] at hi hcs
  have fk : ∀ (i : Nat) (t : TypeId) (o : Nat), i < 5 → ((fsOf 53)[i]?.map fun f => (f.type, f.offset)) = some (t, o) → ∃ y, xs[i]? = some y ∧ DataW.trod enc Tryz.prog W0 base spare held m t ((l.drop o).take (Tryz.prog.cellsOf t)) = some y := fun i t o h5 hfo => by
    obtain ⟨f, hf, hto⟩ := Option.map_eq_some_iff.1 hfo
    injection hto with ht ho
    subst ht ho
    have := hi i f hf
    rw [List.getElem?_eq_getElem (by omega)] at this
    exact ⟨_, List.getElem?_eq_getElem (by omega), this⟩
  obtain ⟨y0, -, t0⟩ := fk 0 36 0 (by decide) (by kernel_rfl)
  obtain ⟨y1, -, t1⟩ := fk 1 39 20 (by decide) (by kernel_rfl)
  obtain ⟨y2, -, t2⟩ := fk 2 3 24 (by decide) (by kernel_rfl)
  obtain ⟨y3, -, t3⟩ := fk 3 9 25 (by decide) (by kernel_rfl)
  obtain ⟨y4, g4, t4⟩ := fk 4 51 26 (by decide) (by kernel_rfl)
  have c0 : Tryz.prog.cellsOf 36 = 20 := by decide +kernel
  have c1 : Tryz.prog.cellsOf 39 = 4 := by decide +kernel
  have c2 : Tryz.prog.cellsOf 3 = 1 := by decide +kernel
  have c3 : Tryz.prog.cellsOf 9 = 1 := by decide +kernel
  have c4 : Tryz.prog.cellsOf 51 = 1 := by decide +kernel
  rw [c0] at t0
  rw [c1] at t1
  rw [c2] at t2
  rw [c3] at t3
  rw [c4] at t4
  obtain ⟨a, hal, ha⟩ := bytes_cells (flat_of_trod kids 8 (by show _ < _; decide +kernel) (by kernel_rfl) t0)
  obtain ⟨w, hw⟩ := word_cells (flat_of_trod kids 8 (by show _ < _; decide +kernel) (by kernel_rfl) t1)
  obtain ⟨n, hn⟩ : ∃ n, (l.drop 24).take 1 = [.int .i64 n] := by
    have := flat_of_trod kids 8 (ks := [.int .i64]) (by show _ < _; decide +kernel) (by kernel_rfl) t2
    revert this
    generalize (l.drop 24).take 1 = q
    intro this
    cases this with
    | cons a0 h3 =>
      cases h3
      obtain ⟨x0, rfl, -⟩ := a0
      exact ⟨x0, rfl⟩
  obtain ⟨c, hc⟩ : ∃ c, (l.drop 25).take 1 = [.string c] := by
    have := flat_of_trod kids 8 (ks := [.str]) (by show _ < _; decide +kernel) (by kernel_rfl) t3
    revert this
    generalize (l.drop 25).take 1 = q
    intro this
    cases this with
    | cons a0 h3 =>
      cases h3
      obtain ⟨x0, rfl, -⟩ := a0
      exact ⟨x0, rfl⟩
  have hus : Tryz.prog.underlying 51 = some (.slice 91) := by kernel_rfl
  obtain ⟨sl, p, k, hs, hli, -, -, -⟩ := liR_of_cells kids (c := Sl.cells) (s := 8) (d := 8) (e := 91) (fun _ => True) (fun _ => slot_cells2) hus (by show _ < _; decide +kernel) (by kernel_rfl) (by decide) (by decide +kernel) t4
  refine ⟨⟨⟨a, hal⟩, w, n, c, sl⟩, .slice p sl.length k, ?_, hli, ?_⟩
  · show Value.agg cs = .agg _
    congr 1
    apply Array.toList_inj.1
    rw [← hl]
    have hsp : l = (l.drop 0).take 20 ++ ((l.drop 20).take 4 ++ ((l.drop 24).take 1 ++ ((l.drop 25).take 1 ++ (l.drop 26).take 1))) := by
      have e5 : (l.drop 26).take 1 = l.drop 26 := List.take_of_length_le (by rw [List.length_drop]; omega)
      have s1 : ∀ (o k : Nat), (l.drop o).take k ++ l.drop (o + k) = l.drop o := fun o k => by rw [← List.drop_drop, List.take_append_drop]
      rw [e5, s1 25 1, s1 24 1, s1 20 4, s1 0 20, List.drop_zero]
    rw [hsp, ha, hw, hn, hc, hs]
    rfl
  · rcases Deep.open_slice hus t4 with ⟨h1, _⟩ | ⟨a', len, cap, m', n', D, Pl, h1, hb, hcl, hcm, hmm, hy, hx2⟩
    · rw [hs] at h1
      simp only [List.cons.injEq, Value.slice.injEq, and_true] at h1
      show sl.length ≤ _
      omega
    · rw [hs] at h1
      simp only [List.cons.injEq, Value.slice.injEq, and_true] at h1
      have hd : (xs.map (·.1))[4]? = some (.slice ((List.range len).map D) ((List.range (m' - len)).map fun j => D (len + j))) := by rw [List.getElem?_map, g4, hy]; rfl
      have hty : ((fsOf 53).toList.map (·.type))[4]? = some 51 := by kernel_rfl
      have hall : (DataW.weightsEach Tryz.prog ((fsOf 53).toList.map (·.type)) (xs.map (·.1))).all (· ≤ reachBytes) = true := List.all_eq_true.2 fun q hq => by
        have := hz q (by rw [hx]; simp only [DataW.weights, hu]; exact hq)
        simpa using this
      have := sized_slice hall hty hd hus
      have b64 : Tryz.prog.bytesOf 91 = 64 := by decide +kernel
      rw [b64, List.length_map, List.length_range] at this
      have r47 := reachBytes_lt
      show sl.length ≤ _
      omega
end Go.Proofs.YtincedmdkdjakaaGreat
set_option linter.unusedSimpArgs false
set_option linter.unusedVariables false
namespace Go.Ev
noncomputable def cellR (k : Ky) (c d : Int) : Ce := if k.slot = true then Ce.sv k (W.ofInt (pickN c 3 : Nat)) else Ce.ac k (W.ofInt (pickN c 4 : Nat)) (pickN d 2 : Nat) .empty
noncomputable def rawV (v : Vi) (r : R4) : Vi := (putV v (cellR (keyA r.a r.b) r.c r.d)).1
theorem insC_len (c : Ce) : ∀ l : List Ce, (insC c l).length ≤ l.length + 1
  | [] => Nat.le_refl _
  | x :: r => by
    unfold insC
    have := insC_len c r
    split
    · simp
    · split
      · simp
      · simp only [List.length_cons]; omega
theorem putV_parts (v : Vi) (c : Ce) : (putV v c).1.base = v.base ∧ (putV v c).1.reads = v.reads ∧ (putV v c).1.writes = v.writes ∧ (putV v c).1.cells.length ≤ v.cells.length + 1 := by
  unfold putV
  split
  · split
    · exact ⟨rfl, rfl, rfl, insC_len _ _⟩
    · exact ⟨rfl, rfl, rfl, Nat.le_succ _⟩
  · exact ⟨rfl, rfl, rfl, Nat.le_succ _⟩
structure Vi.Few (v : Vi) (n : Nat) : Prop where
  ri : RiV v
  b : v.base.length ≤ 9
  sl : ∀ y ∈ v.base, y.slots.length ≤ 1000
  r : v.reads.length ≤ 15
  w : v.writes.length ≤ 15
  c : v.cells.length ≤ n
theorem Vi.Few.fit {v : Vi} {n : Nat} (h : v.Few n) (hn : n ≤ 1000000000) : v.Fit := ⟨by have := h.b; omega, fun y hy => by have := h.sl y hy; omega, by have := h.r; omega, by have := h.w; omega, by have := h.c; omega⟩
theorem Vi.Few.put {v : Vi} {n : Nat} (h : v.Few n) (c : Ce) : (putV v c).1.Few (n + 1) := by
  obtain ⟨h1, h2, h3, h4⟩ := putV_parts v c
  exact ⟨putV_ri h.ri c, by rw [h1]; exact h.b, by rw [h1]; exact h.sl, by rw [h2]; exact h.r, by rw [h3]; exact h.w, by have := h.c; omega⟩
end Go.Ev
namespace Go.Proofs.YtincedmdkdjakaaGreat
open Go Go.Ev Go.Proofs
set_option maxRecDepth 100000
set_option maxHeartbeats 4000000
def plLW : Plans := fun i => if i = 1 then [(0, 9)] else if i = 2 then [(0, 9)] else if i = 3 then [(0, 9)] else if i = 4 then [(0, 0), (1, 0), (2, 0), (3, 0), (4, 0), (5, 0), (6, 0), (7, 0), (8, 0), (9, 2), (10, 0), (11, 0), (12, 0), (13, 1)] else if i = 5 then [(0, 0), (1, 0), (2, 0), (3, 0), (4, 0), (5, 0), (6, 0), (7, 0), (8, 0), (9, 0), (10, 0), (11, 2), (12, 0), (13, 0), (14, 0), (15, 1)] else Tryz.pl43 i
attribute [push_cast] plLW
theorem lawwrite_R {M : Hp} {x : Vi} {v : Value} {r : R4} (hv : ViR x v M) (hb : x.Fit) (hin : r.In) : CallsR Tryz.prog 43 [v, r.v] M (ViR (rawV x r)) := by
  intro M0 hr he
  have hm := hr.marks
  replace hv := ViR.rd _ _ _ _ he.symm hv
  have hv0 := hv
  obtain ⟨vb, vr, vw, vc, rfl, h1, h2, h3, h4⟩ := hv
  obtain ⟨pb, kb, rfl⟩ := h1.slice
  obtain ⟨pr, kr, rfl⟩ := LiR.slice h2
  obtain ⟨pw, kw, rfl⟩ := LiR.slice h3
  obtain ⟨pc, kc, rfl⟩ := LiR.slice h4
  obtain ⟨a, b, c, d⟩ := r
  obtain ⟨ia, ib, ic, id⟩ := hin
  dsimp only at ia ib ic id
  have j2 : i64In 2 := by decide
  have j3 : i64In 3 := by decide
  have j4 : i64In 4 := by decide
  have p3 := pickN_lt c (show (0 : Int) < 3 by decide)
  have p4 := pickN_lt c (show (0 : Int) < 4 by decide)
  have p2 := pickN_lt d (show (0 : Int) < 2 by decide)
  unfold rawV
  dsimp only
  obtain ⟨K, hK⟩ : ∃ K, K = keyA a b := ⟨_, rfl⟩
  have hmK := keyA_may a b
  rw [← hK] at hmK ⊢
  show CallsV Tryz.prog _ [_, .agg #[.int .i64 a, .int .i64 b, .int .i64 c, .int .i64 d]] _ _
  refine callsO gB1_ok Tryz.mix plLW Tryz.func43 rfl Tryz.ntmps43 Tryz.results43 rfl (by first | rfl | assumption) (Nat.le_of_ble_eq_true rfl) (by kernel_rfl) ?_
  simp only [push_cast, seval, reduceCtorEq]
  intro b2 hb2 b3 hb3 b4 hb4
  have f2 : fresh b2 M0 := hb2
  have f3 : fresh b3 M0 := hb3.2.2
  have f4 : fresh b4 M0 := hb4.2.2.2.2
  refine regO gB1_ok ?_
  simp only [push_cast, seval, reduceCtorEq, hb3, hb4, ia, ib, ← hK]
  intro b5 hb5
  have f5 : fresh b5 M0 := hb5.2.2.2.2.2.2
  refine regO gB1_ok ?_
  simp only [push_cast, seval, reduceCtorEq, hb3, hb4, hb5]
  intro b6 hb6
  have f6 : fresh b6 M0 := hb6.2.2.2.2.2.2.2.2
  refine regO gB1_ok ?_
  cases hs : K.slot
  · have hcr : cellR K c d = Ce.ac ⟨K.at_, false, W.zero⟩ (W.ofInt (pickN c 4 : Nat)) (pickN d 2 : Nat) .empty := by
      unfold cellR
      rw [if_neg (by rw [hs]; decide), show K = ⟨K.at_, false, W.zero⟩ from Ky.ext rfl hs (hmK.resolve_left (by rw [hs]; decide))]
    rw [hcr]
    obtain ⟨w, hw⟩ : ∃ w, W.ofInt (pickN c 4 : Nat) = w := ⟨_, rfl⟩
    have k1 : -9223372036854775808 ≤ ((pickN c 4 : Nat) : Int) ∧ ((pickN c 4 : Nat) : Int) ≤ 9223372036854775807 := by omega
    rw [hw]
    have eo : K.at_.cells ++ (w.cells ++ [.int .i64 (pickN d 2 : Nat), .string .empty, .slice none 0 0]) = (⟨K.at_, w, (pickN d 2 : Nat), .empty, []⟩ : Ac).cells (.slice none 0 0) := rfl
    simp only [push_cast, seval, reduceCtorEq, hb3, hb4, hb5, hb6, hs, ic, id, j2, j4, k1.1, k1.2, hw, Ad.k1, Ad.k5, Ad.k6, Ad.k7, Ad.k8, Ad.k9, eo]
    refine useL [_, _, _, _, _] (r11setacc_R (a := ⟨K.at_, w, (pickN d 2 : Nat), .empty, []⟩) (p := none) (n := 0) (k := 0) hv0 hb) (VeR.rd _) hm ⟨f6, f5, f4, f3, f2, trivial⟩ fun u M1 hg1 hL1 hq1 => ?_
    obtain ⟨u, rfl, hu⟩ := hq1
    have hu0 := hu
    obtain ⟨ub, ur, uw, uc, rfl, g1, g2, g3, g4⟩ := hu
    obtain ⟨qb, lb, rfl⟩ := StR.slice g1
    obtain ⟨qr, lr, rfl⟩ := LiR.slice g2
    obtain ⟨qw, lw, rfl⟩ := LiR.slice g3
    obtain ⟨qc, lc, rfl⟩ := LiR.slice g4
    simp only [push_cast, seval, reduceCtorEq, hb3, hb4, hb5, hb6]
    refine ⟨subH_gr (N := []) trivial hg1, ?_⟩
    exact doneK2 [_, _, _, _, _] hg1 (ViR.rd _) hu0
  · have hcr : cellR K c d = Ce.sv ⟨K.at_, true, K.key⟩ (W.ofInt (pickN c 3 : Nat)) := by
      unfold cellR
      rw [if_pos hs]
      congr 1
      exact Ky.ext rfl hs rfl
    rw [hcr]
    obtain ⟨w, hw⟩ : ∃ w, W.ofInt (pickN c 3 : Nat) = w := ⟨_, rfl⟩
    have k1 : -9223372036854775808 ≤ ((pickN c 3 : Nat) : Int) ∧ ((pickN c 3 : Nat) : Int) ≤ 9223372036854775807 := by omega
    rw [hw]
    simp only [push_cast, seval, reduceCtorEq, hb3, hb4, hb5, hb6, hs, ic, id, j3, k1.1, k1.2, hw]
    refine useL [_, _, _, _, _] (r11setslot_R (a := K.at_) (q := K.key) (w := w) hv0 hb) (VeR.rd _) hm ⟨f6, f5, f4, f3, f2, trivial⟩ fun u M1 hg1 hL1 hq1 => ?_
    obtain ⟨u, rfl, hu⟩ := hq1
    have hu0 := hu
    obtain ⟨ub, ur, uw, uc, rfl, g1, g2, g3, g4⟩ := hu
    obtain ⟨qb, lb, rfl⟩ := StR.slice g1
    obtain ⟨qr, lr, rfl⟩ := LiR.slice g2
    obtain ⟨qw, lw, rfl⟩ := LiR.slice g3
    obtain ⟨qc, lc, rfl⟩ := LiR.slice g4
    simp only [push_cast, seval, reduceCtorEq, hb3, hb4, hb5, hb6]
    refine ⟨subH_gr (N := []) trivial hg1, ?_⟩
    exact doneK2 [_, _, _, _, _] hg1 (ViR.rd _) hu0
end Go.Proofs.YtincedmdkdjakaaGreat
set_option linter.unusedSimpArgs false
set_option linter.unusedVariables false
namespace Go.Ev
noncomputable def insY (k : Ky) : List Ky → List Ky
  | [] => [k]
  | x :: r => open Classical in if k.lt x then k :: x :: r else if k = x then x :: r else x :: insY k r
theorem insY_mem {k y : Ky} : ∀ {l : List Ky}, y ∈ insY k l ↔ y = k ∨ y ∈ l
  | [] => by unfold insY; simp
  | x :: r => by
    unfold insY
    split
    · rw [List.mem_cons]
    · split
      · rename_i h
        constructor
        · exact .inr
        · rintro (rfl | h2)
          · rw [h]; exact List.mem_cons_self ..
          · exact h2
      · rw [List.mem_cons, insY_mem, List.mem_cons]
        constructor
        · rintro (h | h | h)
          · exact .inr (.inl h)
          · exact .inl h
          · exact .inr (.inr h)
        · rintro (h | h | h)
          · exact .inr (.inl h)
          · exact .inl h
          · exact .inr (.inr h)
theorem insY_srt {k : Ky} : ∀ {l : List Ky}, l.Pairwise Ky.lt → (insY k l).Pairwise Ky.lt
  | [], _ => List.pairwise_singleton _ _
  | x :: r, h => by
    obtain ⟨h1, h2⟩ := List.pairwise_cons.1 h
    unfold insY
    split
    · rename_i hlt
      refine List.pairwise_cons.2 ⟨fun z hz => ?_, h⟩
      rcases List.mem_cons.1 hz with rfl | hz
      · exact hlt
      · exact Ky.lt_trans hlt (h1 z hz)
    · split
      · exact h
      · rename_i hn hne
        refine List.pairwise_cons.2 ⟨fun z hz => ?_, insY_srt h2⟩
        rcases insY_mem.1 hz with rfl | hz
        · rcases Ky.tri z x with h | h | h
          · exact absurd h hn
          · exact absurd h hne
          · exact h
        · exact h1 z hz
theorem foldP_true {k : Ky} : ∀ {l q : List Ky}, l.foldl (stepP k) (q, true) = (q ++ l, true)
  | [], q => by simp
  | x :: r, q => by
    have h : stepP k (q, true) x = (q ++ [x], true) := by
      unfold stepP
      split
      · rfl
      · rw [if_neg (by simp)]
    rw [List.foldl_cons, h, foldP_true, List.append_assoc]; rfl
theorem foldP_ins {k : Ky} : ∀ {l q : List Ky}, l.Pairwise Ky.lt → (if (l.foldl (stepP k) (q, false)).2 = true then (l.foldl (stepP k) (q, false)).1 else (l.foldl (stepP k) (q, false)).1 ++ [k]) = q ++ insY k l
  | [], q, _ => rfl
  | x :: r, q, h => by
    obtain ⟨h1, h2⟩ := List.pairwise_cons.1 h
    rw [List.foldl_cons]
    unfold insY
    rcases Ky.tri k x with h3 | h3 | h3
    · have h4 : ordY k x < 0 := ordY_neg.2 h3
      rw [show stepP k (q, false) x = (q ++ [k] ++ [x], true) by unfold stepP; rw [if_neg (by omega), if_pos ⟨h4, rfl⟩], foldP_true, if_pos h3]
      simp
    · have h4 : ordY k x = 0 := ordY_zero.2 h3
      rw [show stepP k (q, false) x = (q ++ [x], true) by unfold stepP; rw [if_pos h4], foldP_true, if_pos (show (q ++ [x] ++ r, true).2 = true from rfl), if_neg (by rw [h3]; exact x.lt_irr), if_pos h3]
      simp
    · have h4 : 0 < ordY k x := ordY_pos.2 h3
      rw [show stepP k (q, false) x = (q ++ [x], false) by unfold stepP; rw [if_neg (by omega), if_neg (by omega)], foldP_ins h2, if_neg (fun h => Ky.lt_asymm h h3), if_neg (fun e => Ky.lt_ne h3 e.symm)]
      simp
theorem putK_ins {l : List Ky} {k : Ky} (h : l.Pairwise Ky.lt) : putK l k = insY k l := by
  have := foldP_ins (k := k) (q := []) h
  rw [List.nil_append] at this
  exact this
theorem setK_go : ∀ (l : List Ky) {q : List Ky}, q.Pairwise Ky.lt → (l.foldl putK q).Pairwise Ky.lt ∧ ∀ y, y ∈ l.foldl putK q ↔ y ∈ q ∨ y ∈ l
  | [], q, h => ⟨h, fun y => by simp⟩
  | x :: r, q, h => by
    rw [List.foldl_cons, putK_ins h]
    obtain ⟨h1, h2⟩ := setK_go r (insY_srt (k := x) h)
    refine ⟨h1, fun y => ?_⟩
    rw [h2, insY_mem, List.mem_cons]
    constructor
    · rintro ((h | h) | h)
      · exact .inr (.inl h)
      · exact .inl h
      · exact .inr (.inr h)
    · rintro (h | h | h)
      · exact .inl (.inr h)
      · exact .inl (.inl h)
      · exact .inr h
theorem setK_srt (l : List Ky) : (setK l).Pairwise Ky.lt := (setK_go l List.Pairwise.nil).1
theorem setK_mem {l : List Ky} {y : Ky} : y ∈ setK l ↔ y ∈ l := by
  unfold setK
  rw [(setK_go l List.Pairwise.nil).2]
  simp
theorem setK_right {l : List Ky} (h : ∀ k ∈ l, mayKy k) (hn : l.length ≤ 200) : rightKs (setK l) := ⟨fun k hk => h k (setK_mem.1 hk), setK_srt l, by have := setK_len l; omega⟩
theorem keysR_right (l : List R2) : rightKs (setK (keysR l)) := setK_right (fun k hk => (Ky.may_iff k).1 (keysR_may l k hk)) (by have := keysR_len l; omega)
noncomputable def viewR (s : List R4) (a b : List R2) (l : List R4) : Vi := (l.take 15).foldl rawV ⟨stateR s, setK (keysR a), setK (keysR b), []⟩
theorem RiV.open {s : List Ac} {R W' : List Ky} (hs : RiS s) (h1 : rightKs R) (h2 : rightKs W') : RiV ⟨s, R, W', []⟩ := ⟨fun c hc => by (cases hc), fun c hc => by (cases hc), List.Pairwise.nil, hs, h1, h2⟩
theorem few0 (s : List R4) (a b : List R2) : Vi.Few ⟨stateR s, setK (keysR a), setK (keysR b), []⟩ 0 :=
  ⟨RiV.open (stateR_ri s) (keysR_right a) (keysR_right b), (stateR_few s).len, fun y hy => (mayA_slots ((stateR_ri s).may y hy)).len, by have := setK_len (keysR a); have := keysR_len a; dsimp only; omega, by have := setK_len (keysR b); have := keysR_len b; dsimp only; omega, Nat.le_refl _⟩
theorem fold_few : ∀ (l : List R4) {v : Vi} {n : Nat}, v.Few n → (l.foldl rawV v).Few (n + l.length)
  | [], v, n, h => h
  | r :: l, v, n, h => by
    rw [List.foldl_cons, List.length_cons, show n + (l.length + 1) = n + 1 + l.length by omega]
    exact fold_few l (h.put _)
theorem viewR_few (s : List R4) (a b : List R2) (l : List R4) : (viewR s a b l).Few 15 := by
  have h := fold_few (l.take 15) (few0 s a b)
  refine ⟨h.ri, h.b, h.sl, h.r, h.w, ?_⟩
  have := h.c
  rw [List.length_take] at this
  unfold viewR
  omega
end Go.Ev
namespace Go.Proofs.YtincedmdkdjakaaGreat
open Go Go.Ev Go.Proofs
set_option maxRecDepth 100000
set_option maxHeartbeats 4000000
def plLV : Plans := fun i => if i = 1 then [] else if i = 5 then [(0, 0), (1, 0), (2, 0), (3, 0), (4, 0), (5, 2), (6, 1)] else Tryz.pl11 i
attribute [push_cast] plLV
theorem lawview_R {M : Hp} {s : List R4} {a b : List R2} {l : List R4} {vs va vb vl : Value} (hs : LiR R4.cells 4 M s vs) (ha : LiR R2.cells 2 M a va) (hb : LiR R2.cells 2 M b vb) (hl : LiR R4.cells 4 M l vl)
    (is : ∀ r ∈ s, r.In) (ia : ∀ r ∈ a, r.In) (ib : ∀ r ∈ b, r.In) (il : ∀ r ∈ l, r.In) : CallsR Tryz.prog 11 [vs, .agg #[va, vb], vl] M (ViR (viewR s a b l)) := by
  intro M0 hr he
  have hm := hr.marks
  replace hs := hs.congr he.symm
  replace ha := ha.congr he.symm
  replace hb := hb.congr he.symm
  replace hl := hl.congr he.symm
  obtain ⟨ps, ks, rfl⟩ := LiR.slice hs
  obtain ⟨pa, ka, rfl⟩ := LiR.slice ha
  obtain ⟨pb, kb, rfl⟩ := LiR.slice hb
  obtain ⟨pl, kl, rfl, hla⟩ := LiR.openC R4.len (by decide) hl
  have hfew := few0 s a b
  have hfit := hfew.fit (by decide)
  refine callsO gB1_ok Tryz.mix plLV Tryz.func11 rfl Tryz.ntmps11 Tryz.results11 rfl (by first | rfl | assumption) (Nat.le_of_ble_eq_true rfl) (by kernel_rfl) ?_
  simp only [push_cast, seval, reduceCtorEq]
  intro b4 hb4 b6 hb6
  have f4 : fresh b4 M0 := hb4
  have f6 : fresh b6 M0 := hb6.2.2
  obtain ⟨x0, hx0⟩ : ∃ x0 : Vi, x0 = ⟨stateR s, setK (keysR a), setK (keysR b), []⟩ := ⟨_, rfl⟩
  have hop0 : openV (stateR s) (setK (keysR a)) (setK (keysR b)) = (x0, 0) := by rw [openV_ok hfew.ri, hx0]
  have hLX : freshN [⟨b6, 0, .cel 33, [.slice none 0 0, .slice none 0 0, .slice none 0 0, .slice none 0 0]⟩, ⟨b4, 0, .cel 24, [.slice pa a.length ka, .slice pb b.length kb]⟩] M0 := ⟨f6, f4, trivial⟩
  have fB4 : findE (⟨b6, 0, .cel 33, [.slice none 0 0, .slice none 0 0, .slice none 0 0, .slice none 0 0]⟩ :: ⟨b4, 0, .cel 24, [.slice pa a.length ka, .slice pb b.length kb]⟩ :: M0) b4 = some ⟨b4, 0, .cel 24, [.slice pa a.length ka, .slice pb b.length kb]⟩ := by simp only [push_cast, seval, reduceCtorEq, hb6]
  refine drawS gB1_ok Tryz.mix [(2, .slice pl l.length kl), (4, .pointer (some ⟨b4, 0, none⟩)), (6, .pointer (some ⟨b6, 0, none⟩)), (0, .slice ps s.length ks)]
      (fun i val => match i with
        | 0 => val 0 = .slice ps s.length ks
        | 1 => ∃ p k, val 1 = .slice p (stateR s).length k
        | 2 => val 2 = .pointer (some ⟨b4, 0, none⟩)
        | 3 => val 3 = .slice pa a.length ka
        | 4 => val 4 = .pointer (some ⟨b4, 1, none⟩)
        | 5 => val 5 = .slice pb b.length kb
        | 6 => ∃ p k p' k', val 6 = .agg #[.slice p (setK (keysR a)).length k, .slice p' (setK (keysR b)).length k']
        | 7 => ∃ p k p1 k1 p2 k2 p3 k3, val 7 = .tuple #[.agg #[.slice p x0.base.length k, .slice p1 x0.reads.length k1, .slice p2 x0.writes.length k2, .slice p3 x0.cells.length k3], .int .i64 0]
        | 8 => val 8 = val 7 ∧ ∃ p k p1 k1 p2 k2 p3 k3, val 7 = .tuple #[.agg #[.slice p x0.base.length k, .slice p1 x0.reads.length k1, .slice p2 x0.writes.length k2, .slice p3 x0.cells.length k3], .int .i64 0]
        | 9 => ∃ p k p1 k1 p2 k2 p3 k3, val 9 = .agg #[.slice p x0.base.length k, .slice p1 x0.reads.length k1, .slice p2 x0.writes.length k2, .slice p3 x0.cells.length k3] ∧ val 8 = .tuple #[val 9, .int .i64 0]
        | 10 => val 10 = .int .i64 0
        | 11 => ∃ b, val 11 = .pointer (some ⟨b, 0, none⟩)
        | 13 => val 13 = .int .i64 0
        | _ => True)
      (fun i val N => match i with
        | 1 => allWr N ∧ marksOf N = [] ∧ StR (stateR s) (val 1) (N ++ M0)
        | 6 => allWr N ∧ marksOf N = [] ∧ StR (stateR s) (val 1) (N ++ M0) ∧ SeR (setK (keysR a)) (setK (keysR b)) (val 6) (N ++ M0)
        | 7 => allWr N ∧ marksOf N = [] ∧ VeR (x0, 0) (val 7) (N ++ M0)
        | 8 => N = []
        | 9 => N = []
        | 11 => ∃ b, val 11 = .pointer (some ⟨b, 0, none⟩) ∧ N = [⟨b, 0, .cel 33, [.slice none 0 0, .slice none 0 0, .slice none 0 0, .slice none 0 0]⟩]
        | 12 => ∃ b p k p1 k1 p2 k2 p3 k3, val 11 = .pointer (some ⟨b, 0, none⟩) ∧ val 9 = .agg #[.slice p x0.base.length k, .slice p1 x0.reads.length k1, .slice p2 x0.writes.length k2, .slice p3 x0.cells.length k3] ∧ N = [⟨b, 0, .cel 33, [.slice p x0.base.length k, .slice p1 x0.reads.length k1, .slice p2 x0.writes.length k2, .slice p3 x0.cells.length k3]⟩]
        | _ => N = []) (fun i => if i = 6 then [1] else if i = 7 then [6] else if i = 12 then [11] else []) [7, 12] (by kernel_rfl) (by kernel_rfl) (by kernel_rfl) ?_ (by rfl) (by decide) (by kernel_rfl) ?_ ?_ ?_ ?_ ?_
  · simp only [push_cast, seval, reduceCtorEq, subT]
  · intro i hi hiF
    replace hi : i < 14 := hi
    obtain rfl | rfl | rfl | rfl | rfl | rfl | rfl | rfl | rfl | rfl | rfl | rfl | rfl | rfl : i = 0 ∨ i = 1 ∨ i = 2 ∨ i = 3 ∨ i = 4 ∨ i = 5 ∨ i = 6 ∨ i = 7 ∨ i = 8 ∨ i = 9 ∨ i = 10 ∨ i = 11 ∨ i = 12 ∨ i = 13 := by omega
    all_goals first
      | exact .inl fun _ _ h => h
      | exact absurd (by decide) hiF
      | exact .inr (by kernel_rfl)
  · intro i o ho val val' h1 h2 hV
    have hi := (Array.getElem?_eq_some_iff.1 ho).1
    replace hi : i < 14 := hi
    obtain rfl | rfl | rfl | rfl | rfl | rfl | rfl | rfl | rfl | rfl | rfl | rfl | rfl | rfl : i = 0 ∨ i = 1 ∨ i = 2 ∨ i = 3 ∨ i = 4 ∨ i = 5 ∨ i = 6 ∨ i = 7 ∨ i = 8 ∨ i = 9 ∨ i = 10 ∨ i = 11 ∨ i = 12 ∨ i = 13 := by omega
    · first
        | exact trivial
        | exact hV
        | exact h1.trans hV
        | (rw [h1]; exact hV)
    · first
        | exact trivial
        | exact hV
        | exact h1.trans hV
        | (rw [h1]; exact hV)
    · first
        | exact trivial
        | exact hV
        | exact h1.trans hV
        | (rw [h1]; exact hV)
    · first
        | exact trivial
        | exact hV
        | exact h1.trans hV
        | (rw [h1]; exact hV)
    · first
        | exact trivial
        | exact hV
        | exact h1.trans hV
        | (rw [h1]; exact hV)
    · first
        | exact trivial
        | exact hV
        | exact h1.trans hV
        | (rw [h1]; exact hV)
    · first
        | exact trivial
        | exact hV
        | exact h1.trans hV
        | (rw [h1]; exact hV)
    · first
        | exact trivial
        | exact hV
        | exact h1.trans hV
        | (rw [h1]; exact hV)
    · simp only [List.getElem?_toArray, List.getElem?_cons_zero, List.getElem?_cons_succ, Option.some.injEq] at ho; subst ho
      have h5 := h2 7 (by kernel_rfl)
      obtain ⟨a1, a2⟩ := hV
      exact ⟨by rw [h1, h5]; exact a1, by rw [h5]; exact a2⟩
    · simp only [List.getElem?_toArray, List.getElem?_cons_zero, List.getElem?_cons_succ, Option.some.injEq] at ho; subst ho
      have h6 := h2 8 (by kernel_rfl)
      obtain ⟨p, k, p1, k1, p2, k2, p3, k3, a1, a2⟩ := hV
      exact ⟨p, k, p1, k1, p2, k2, p3, k3, by rw [h1]; exact a1, by rw [h6, h1]; exact a2⟩
    · first
        | exact trivial
        | exact hV
        | exact h1.trans hV
        | (rw [h1]; exact hV)
    · first
        | exact trivial
        | exact hV
        | exact h1.trans hV
        | (rw [h1]; exact hV)
    · first
        | exact trivial
        | exact hV
        | exact h1.trans hV
        | (rw [h1]; exact hV)
    · first
        | exact trivial
        | exact hV
        | exact h1.trans hV
        | (rw [h1]; exact hV)
  · intro i o ho val val' N h1 h2 hQ
    have hi := (Array.getElem?_eq_some_iff.1 ho).1
    replace hi : i < 14 := hi
    obtain rfl | rfl | rfl | rfl | rfl | rfl | rfl | rfl | rfl | rfl | rfl | rfl | rfl | rfl : i = 0 ∨ i = 1 ∨ i = 2 ∨ i = 3 ∨ i = 4 ∨ i = 5 ∨ i = 6 ∨ i = 7 ∨ i = 8 ∨ i = 9 ∨ i = 10 ∨ i = 11 ∨ i = 12 ∨ i = 13 := by omega
    · first
        | exact trivial
        | exact hQ
        | exact h1.trans hQ
        | (rw [h1]; exact hQ)
    · first
        | exact trivial
        | exact hQ
        | exact h1.trans hQ
        | (rw [h1]; exact hQ)
    · first
        | exact trivial
        | exact hQ
        | exact h1.trans hQ
        | (rw [h1]; exact hQ)
    · first
        | exact trivial
        | exact hQ
        | exact h1.trans hQ
        | (rw [h1]; exact hQ)
    · first
        | exact trivial
        | exact hQ
        | exact h1.trans hQ
        | (rw [h1]; exact hQ)
    · first
        | exact trivial
        | exact hQ
        | exact h1.trans hQ
        | (rw [h1]; exact hQ)
    · simp only [List.getElem?_toArray, List.getElem?_cons_zero, List.getElem?_cons_succ, Option.some.injEq] at ho; subst ho
      have h1' := h2 1 (by kernel_rfl)
      obtain ⟨q1, q2, q3, q4⟩ := hQ
      exact ⟨q1, q2, by rw [h1']; exact q3, by rw [h1]; exact q4⟩
    · first
        | exact trivial
        | exact hQ
        | exact h1.trans hQ
        | (rw [h1]; exact hQ)
    · first
        | exact trivial
        | exact hQ
        | exact h1.trans hQ
        | (rw [h1]; exact hQ)
    · first
        | exact trivial
        | exact hQ
        | exact h1.trans hQ
        | (rw [h1]; exact hQ)
    · first
        | exact trivial
        | exact hQ
        | exact h1.trans hQ
        | (rw [h1]; exact hQ)
    · first
        | exact trivial
        | exact hQ
        | exact h1.trans hQ
        | (rw [h1]; exact hQ)
    · simp only [List.getElem?_toArray, List.getElem?_cons_zero, List.getElem?_cons_succ, Option.some.injEq] at ho; subst ho
      have h10 := h2 11 (by kernel_rfl)
      have h7 := h2 9 (by kernel_rfl)
      obtain ⟨b, p, k, p1, k1, p2, k2, p3, k3, a1, a2, a3⟩ := hQ
      exact ⟨b, p, k, p1, k1, p2, k2, p3, k3, by rw [h10]; exact a1, by rw [h7]; exact a2, a3⟩
    · first
        | exact trivial
        | exact hQ
        | exact h1.trans hQ
        | (rw [h1]; exact hQ)
  · intro i o ho T' Y val mem hT hdep hus hfr hY hmY hapY
    have hi := (Array.getElem?_eq_some_iff.1 ho).1
    replace hi : i < 14 := hi
    have y4 := hY _ _ fB4
    have hM0Y : ∀ b e, findE M0 b = some e → findE Y b = some e := fun b e h => hY b e (find_behind hLX b e h)
    have t4 : getT T' 4 = some (.pointer (some ⟨b4, 0, none⟩)) := hT.2.1
    have t0 : getT T' 0 = some (.slice ps s.length ks) := hT.2.2.2.1
    obtain rfl | rfl | rfl | rfl | rfl | rfl | rfl | rfl | rfl | rfl | rfl | rfl | rfl | rfl : i = 0 ∨ i = 1 ∨ i = 2 ∨ i = 3 ∨ i = 4 ∨ i = 5 ∨ i = 6 ∨ i = 7 ∨ i = 8 ∨ i = 9 ∨ i = 10 ∨ i = 11 ∨ i = 12 ∨ i = 13 := by omega
    · simp only [List.getElem?_toArray, List.getElem?_cons_zero, List.getElem?_cons_succ, Option.some.injEq] at ho; subst ho
      simp only [push_cast, seval, reduceCtorEq, List.flatMap_nil, List.flatMap_cons, List.append_nil, List.nil_append, t0]
      exact ⟨[], rfl, trivial, rfl, upd_self _ _ _, rfl⟩
    · simp only [List.getElem?_toArray, List.getElem?_cons_zero, List.getElem?_cons_succ, Option.some.injEq] at ho; subst ho
      obtain ⟨v0, g0⟩ := hdep 0 (by kernel_rfl)
      replace g0 := g0 11 rfl
      rw [show val 0 = _ from v0] at g0
      simp only [push_cast, seval, reduceCtorEq, List.flatMap_nil, List.flatMap_cons, List.append_nil, List.nil_append, g0]
      refine callS (M := M0) (state_ok hs is) (StR.rd _) hM0Y fun w N hw hm1 hf hq => ⟨N, rfl, hw, hm1, ?_, ?_⟩
      · obtain ⟨p1, k1, rfl⟩ := hq.slice
        exact ⟨p1, k1, by rw [upd_self]⟩
      · rw [upd_self]; exact ⟨hw, hm1, hq⟩
    · simp only [List.getElem?_toArray, List.getElem?_cons_zero, List.getElem?_cons_succ, Option.some.injEq] at ho; subst ho
      simp only [push_cast, seval, reduceCtorEq, List.flatMap_nil, List.flatMap_cons, List.append_nil, List.nil_append, t4]
      exact ⟨[], rfl, trivial, rfl, upd_self _ _ _, rfl⟩
    · simp only [List.getElem?_toArray, List.getElem?_cons_zero, List.getElem?_cons_succ, Option.some.injEq] at ho; subst ho
      obtain ⟨v2, g2⟩ := hdep 2 (by kernel_rfl)
      replace g2 := g2 13 rfl
      rw [show val 2 = _ from v2] at g2
      simp only [push_cast, seval, reduceCtorEq, List.flatMap_nil, List.flatMap_cons, List.append_nil, List.nil_append, g2, y4]
      exact ⟨[], rfl, trivial, rfl, upd_self _ _ _, rfl⟩
    · simp only [List.getElem?_toArray, List.getElem?_cons_zero, List.getElem?_cons_succ, Option.some.injEq] at ho; subst ho
      simp only [push_cast, seval, reduceCtorEq, List.flatMap_nil, List.flatMap_cons, List.append_nil, List.nil_append, t4]
      exact ⟨[], rfl, trivial, rfl, upd_self _ _ _, rfl⟩
    · simp only [List.getElem?_toArray, List.getElem?_cons_zero, List.getElem?_cons_succ, Option.some.injEq] at ho; subst ho
      obtain ⟨v4, g4⟩ := hdep 4 (by kernel_rfl)
      replace g4 := g4 15 rfl
      rw [show val 4 = _ from v4] at g4
      simp only [push_cast, seval, reduceCtorEq, List.flatMap_nil, List.flatMap_cons, List.append_nil, List.nil_append, g4, y4]
      exact ⟨[], rfl, trivial, rfl, upd_self _ _ _, rfl⟩
    · simp only [List.getElem?_toArray, List.getElem?_cons_zero, List.getElem?_cons_succ, Option.some.injEq] at ho; subst ho
      obtain ⟨v3, g3⟩ := hdep 3 (by kernel_rfl)
      replace g3 := g3 14 rfl
      rw [show val 3 = _ from v3] at g3
      obtain ⟨v5, g5⟩ := hdep 5 (by kernel_rfl)
      replace g5 := g5 16 rfl
      rw [show val 5 = _ from v5] at g5
      obtain ⟨w1, m1, hq1⟩ := hus 1 (List.mem_singleton.2 rfl)
      have fr1 : freshN (mem 1) Y := by simpa using hfr
      have fd1 : ∀ b e, findE M0 b = some e → findE (mem 1 ++ M0) b = some e := fun b e he => by rw [findE_freshN fr1 (hM0Y b e he)]; exact he
      simp only [push_cast, seval, reduceCtorEq, List.flatMap_nil, List.flatMap_cons, List.append_nil, List.nil_append, g3, g5]
      refine callS (M := mem 1 ++ M0) (lawsets_R (LiR.find fd1 ha) (LiR.find fd1 hb) ia ib) (SeR.rd _ _) (find_front hM0Y) fun w N hw hm2 hf hq => ⟨N ++ mem 1, by rw [List.append_assoc], allWr_app hw w1, by rw [marks_append, hm2, m1]; rfl, ?_, ?_⟩
      · obtain ⟨vr, vw, rfl, g1, g2⟩ := hq
        obtain ⟨p1, k1, rfl⟩ := LiR.slice g1
        obtain ⟨p2, k2, rfl⟩ := LiR.slice g2
        exact ⟨p1, k1, p2, k2, by rw [upd_self]⟩
      · rw [upd_self, upd_ne (show (1 : Nat) ≠ 6 by decide), List.append_assoc]
        exact ⟨allWr_app hw w1, by rw [marks_append, hm2, m1]; rfl, hq1.find (fun bb e he => by rw [findE_freshN hf (find_front hM0Y bb e he)]; exact he), hq⟩
    · simp only [List.getElem?_toArray, List.getElem?_cons_zero, List.getElem?_cons_succ, Option.some.injEq] at ho; subst ho
      obtain ⟨v1, g1⟩ := hdep 1 (by kernel_rfl)
      replace g1 := g1 12 rfl
      obtain ⟨v6, g6⟩ := hdep 6 (by kernel_rfl)
      replace g6 := g6 17 rfl
      obtain ⟨p1, k1, v1⟩ := v1
      have v1 : val 1 = _ := v1
      obtain ⟨p5, k5, p6, k6, v6⟩ := v6
      have v6 : val 6 = _ := v6
      obtain ⟨w6, m6, hq1, hq6⟩ := hus 6 (List.mem_singleton.2 rfl)
      rw [v1] at hq1 g1
      rw [v6] at hq6 g6
      have fr6 : freshN (mem 6) Y := by simpa using hfr
      simp only [push_cast, seval, reduceCtorEq, List.flatMap_nil, List.flatMap_cons, List.append_nil, List.nil_append, g1, g6]
      refine callS (M := mem 6 ++ M0) (by have := r11open_ok hq1 hq6 hfit; rw [hop0] at this; exact this) (VeR.rd _) (find_front hM0Y) fun w N hw hm2 hf hq => ⟨N ++ mem 6, by rw [List.append_assoc], allWr_app hw w6, by rw [marks_append, hm2, m6]; rfl, ?_, ?_⟩
      · obtain ⟨u, rfl, ub, ur, uw, uc, rfl, g1, g2, g3, g4⟩ := hq
        obtain ⟨q1, l1, rfl⟩ := StR.slice g1
        obtain ⟨q2, l2, rfl⟩ := LiR.slice g2
        obtain ⟨q3, l3, rfl⟩ := LiR.slice g3
        obtain ⟨q4, l4, rfl⟩ := LiR.slice g4
        exact ⟨q1, l1, q2, l2, q3, l3, q4, l4, by rw [upd_self]⟩
      · rw [upd_self, List.append_assoc]
        exact ⟨allWr_app hw w6, by rw [marks_append, hm2, m6]; rfl, hq⟩
    · simp only [List.getElem?_toArray, List.getElem?_cons_zero, List.getElem?_cons_succ, Option.some.injEq] at ho; subst ho
      obtain ⟨v7, g7⟩ := hdep 7 (by kernel_rfl)
      replace g7 := g7 18 rfl
      simp only [push_cast, seval, reduceCtorEq, List.flatMap_nil, List.flatMap_cons, List.append_nil, List.nil_append, g7]
      refine ⟨[], rfl, trivial, rfl, ⟨?_, ?_⟩, rfl⟩
      · simp [upd]
      · simpa [upd] using v7
    · simp only [List.getElem?_toArray, List.getElem?_cons_zero, List.getElem?_cons_succ, Option.some.injEq] at ho; subst ho
      obtain ⟨v8, g8⟩ := hdep 8 (by kernel_rfl)
      replace g8 := g8 10 rfl
      obtain ⟨v8, p, k, p1, k1, p2, k2, p3, k3, v7⟩ := v8
      have v8 : val 8 = _ := v8
      rw [v8, v7] at g8
      simp only [push_cast, seval, reduceCtorEq, List.flatMap_nil, List.flatMap_cons, List.append_nil, List.nil_append, g8]
      refine ⟨[], rfl, trivial, rfl, ⟨p, k, p1, k1, p2, k2, p3, k3, ?_, ?_⟩, rfl⟩
      · simp [upd]
      · simp [upd, v8, v7]
    · simp only [List.getElem?_toArray, List.getElem?_cons_zero, List.getElem?_cons_succ, Option.some.injEq] at ho; subst ho
      obtain ⟨v8, g8⟩ := hdep 8 (by kernel_rfl)
      replace g8 := g8 10 rfl
      obtain ⟨v8, p, k, p1, k1, p2, k2, p3, k3, v7⟩ := v8
      have v8 : val 8 = _ := v8
      rw [v8, v7] at g8
      simp only [push_cast, seval, reduceCtorEq, List.flatMap_nil, List.flatMap_cons, List.append_nil, List.nil_append, g8]
      exact ⟨[], rfl, trivial, rfl, upd_self _ _ _, rfl⟩
    · simp only [List.getElem?_toArray, List.getElem?_cons_zero, List.getElem?_cons_succ, Option.some.injEq] at ho; subst ho
      simp only [push_cast, seval, reduceCtorEq, List.flatMap_nil, List.flatMap_cons, List.append_nil, List.nil_append]
      intro b hf
      exact ⟨[_], rfl, ⟨trivial, trivial⟩, rfl, ⟨b, upd_self _ _ _⟩, b, upd_self _ _ _, rfl⟩
    · simp only [List.getElem?_toArray, List.getElem?_cons_zero, List.getElem?_cons_succ, Option.some.injEq] at ho; subst ho
      obtain ⟨v9, g9⟩ := hdep 9 (by kernel_rfl)
      replace g9 := g9 19 rfl
      obtain ⟨v11, g11⟩ := hdep 11 (by kernel_rfl)
      replace g11 := g11 7 rfl
      obtain ⟨p, k, p1, k1, p2, k2, p3, k3, v9, -⟩ := v9
      have v9 : val 9 = _ := v9
      rw [v9] at g9
      obtain ⟨b11, v11, hN⟩ := hus 11 (List.mem_singleton.2 rfl)
      have v11 : val 11 = _ := v11
      rw [v11] at g11
      simp only [push_cast, seval, reduceCtorEq, List.flatMap_nil, List.flatMap_cons, List.append_nil, List.nil_append, g9, g11, hN, List.cons_append]
      refine ⟨[_], rfl, ⟨trivial, trivial⟩, rfl, b11, p, k, p1, k1, p2, k2, p3, k3, ?_, ?_, rfl⟩
      · simp [upd, v11]
      · simp [upd, v9]
    · simp only [List.getElem?_toArray, List.getElem?_cons_zero, List.getElem?_cons_succ, Option.some.injEq] at ho; subst ho
      obtain ⟨v10, g10⟩ := hdep 10 (by kernel_rfl)
      replace g10 := g10 20 rfl
      rw [show val 10 = _ from v10] at g10
      simp only [push_cast, seval, reduceCtorEq, List.flatMap_nil, List.flatMap_cons, List.append_nil, List.nil_append, g10]
      exact ⟨[], rfl, trivial, rfl, upd_self _ _ _, rfl⟩
  · intro val mem hV hQ hap hwr
    obtain ⟨w7, m7, u7, hu7, hq7⟩ := hQ 7 (by decide)
    obtain ⟨b7, p, k, p1, k1, p2, k2, p3, k3, v11, v9, hN12⟩ := hQ 12 (by decide)
    obtain ⟨h8, -⟩ := hV 8 (by decide)
    obtain ⟨-, -, -, -, -, -, -, -, -, h98⟩ := hV 9 (by decide)
    have v11 : val 11 = _ := v11
    have v9 : val 9 = _ := v9
    have hu7 : val 7 = _ := hu7
    have h8 : val 8 = val 7 := h8
    have h98 : val 8 = .tuple #[val 9, .int .i64 0] := h98
    rw [h8, hu7, v9] at h98
    have hs5 : u7 = .agg #[.slice p x0.base.length k, .slice p1 x0.reads.length k1, .slice p2 x0.writes.length k2, .slice p3 x0.cells.length k3] := by injection h98 with h; have h1 := congrArg Array.toList h; simp only [List.cons.injEq] at h1; exact h1.1
    subst hs5
    have hMM : List.flatMap mem [7, 12] ++ (⟨b6, 0, .cel 33, [.slice none 0 0, .slice none 0 0, .slice none 0 0, .slice none 0 0]⟩ :: ⟨b4, 0, .cel 24, [.slice pa a.length ka, .slice pb b.length kb]⟩ :: M0) = mem 7 ++ (⟨b7, 0, .cel 33, [.slice p x0.base.length k, .slice p1 x0.reads.length k1, .slice p2 x0.writes.length k2, .slice p3 x0.cells.length k3]⟩ :: ⟨b6, 0, .cel 33, [.slice none 0 0, .slice none 0 0, .slice none 0 0, .slice none 0 0]⟩ :: ⟨b4, 0, .cel 24, [.slice pa a.length ka, .slice pb b.length kb]⟩ :: M0) := by
      simp only [List.flatMap_cons, List.flatMap_nil, List.append_nil, hN12, List.append_assoc, List.cons_append, List.nil_append]
    rw [hMM] at hap ⊢
    have a5 := freshN_apart hap w7
    have hap' := (List.pairwise_append.1 hap).2.1
    have a7 := freshN_apart (A := [⟨b7, 0, .cel 33, [.slice p x0.base.length k, .slice p1 x0.reads.length k1, .slice p2 x0.writes.length k2, .slice p3 x0.cells.length k3]⟩]) hap' ⟨trivial, trivial⟩
    have q57 := freshN_sym a5
    have hb7 := a7.1
    simp only [push_cast, seval, reduceCtorEq] at hb7
    have f70 : fresh b7 (M0 ++ mem 7) := fresh_app_iff.2 ⟨hb7.2.2.2.2, q57.1⟩
    have f60 : fresh b6 (M0 ++ mem 7) := fresh_app_iff.2 ⟨f6, q57.2.1⟩
    have f40 : fresh b4 (M0 ++ mem 7) := fresh_app_iff.2 ⟨f4, q57.2.2.1⟩
    have hg1 : Gr M0 (M0 ++ mem 7) := ⟨hm, mem 7, rfl, w7, m7⟩
    have hv7 : ViR x0 (.agg #[.slice p x0.base.length k, .slice p1 x0.reads.length k1, .slice p2 x0.writes.length k2, .slice p3 x0.cells.length k3]) (M0 ++ mem 7) := ViR.rd _ _ _ _ (cellsAt_swap (freshN_cons (freshN_cons (freshN_cons a5)))) hq7
    simp only [push_cast, seval, reduceCtorEq, v9, v11]
    refine WpV.perm (H' := ⟨b7, 0, .cel 33, [.slice p x0.base.length k, .slice p1 x0.reads.length k1, .slice p2 x0.writes.length k2, .slice p3 x0.cells.length k3]⟩ :: ⟨b6, 0, .cel 33, [.slice none 0 0, .slice none 0 0, .slice none 0 0, .slice none 0 0]⟩ :: ⟨b4, 0, .cel 24, [.slice pa a.length ka, .slice pb b.length kb]⟩ :: (M0 ++ mem 7)) ?_ ?_ ?_
    · exact List.perm_append_comm
    · simp [marks_append, marksOf, m7, hm]
    refine WpV.slots [(2, .slice pl l.length kl), (4, .pointer (some ⟨b4, 0, none⟩)), (6, .pointer (some ⟨b6, 0, none⟩)), (7, .pointer (some ⟨b7, 0, none⟩)), (9, .int .i64 0)] (by simp only [push_cast, seval, reduceCtorEq]) ?_
    generalize M0 ++ mem 7 = M1 at hg1 hv7 f70 f60 f40 ⊢
    refine loopO gB1_ok (pl := plLV) Tryz.mix (X := Nat × List Value × Hp)
      (fun q => ([(2, .slice pl l.length kl), (4, .pointer (some ⟨b4, 0, none⟩)), (6, .pointer (some ⟨b6, 0, none⟩)), (7, .pointer (some ⟨b7, 0, none⟩)), (9, .int .i64 q.1)], ⟨b7, 0, .cel 33, q.2.1⟩ :: ⟨b6, 0, .cel 33, [.slice none 0 0, .slice none 0 0, .slice none 0 0, .slice none 0 0]⟩ :: ⟨b4, 0, .cel 24, [.slice pa a.length ka, .slice pb b.length kb]⟩ :: q.2.2))
      (fun q => q.1 ≤ l.length ∧ q.1 ≤ 15 ∧ Gr M0 q.2.2 ∧ fresh b7 q.2.2 ∧ fresh b6 q.2.2 ∧ fresh b4 q.2.2 ∧ ViR ((l.take q.1).foldl rawV x0) (.agg q.2.1.toArray) q.2.2) (fun q => l.length - q.1) (0, [.slice p x0.base.length k, .slice p1 x0.reads.length k1, .slice p2 x0.writes.length k2, .slice p3 x0.cells.length k3], M1) ?_ ?_ (by kernel_rfl) ?_
    · exact ⟨Nat.zero_le _, Nat.zero_le _, hg1, f70, f60, f40, hv7⟩
    · simp only [push_cast, seval, reduceCtorEq, hb7, hb6]
      try exact subH_self _
    · rintro ⟨i, L, M1⟩ ⟨hi, h15, hg1, f7, f6, f4, hv⟩
      dsimp only at hi h15 hg1 f7 f6 f4 hv ⊢
      have hgm := hg1.marks
      have hfw := (fold_few (l.take i) (hx0 ▸ few0 s a b : x0.Few 0))
      have hfw2 : ((l.take i).foldl rawV x0).Fit := hfw.fit (by rw [List.length_take]; omega)
      obtain ⟨t, ht⟩ : ∃ t, t = (l.take i).foldl rawV x0 := ⟨_, rfl⟩
      rw [← ht] at hv hfw2
      have hv0 := hv
      obtain ⟨wb, wr, ww, wc, hL, g1, g2, g3, g4⟩ := hv
      have hL : L = [wb, wr, ww, wc] := by injection hL with h; simpa using congrArg Array.toList h
      subst hL
      obtain ⟨q1, l1, rfl⟩ := StR.slice g1
      obtain ⟨q2, l2, rfl⟩ := LiR.slice g2
      obtain ⟨q3, l3, rfl⟩ := LiR.slice g3
      obtain ⟨q4, l4, rfl⟩ := LiR.slice g4
      by_cases hc : i < l.length ∧ i < 15
      · obtain ⟨hlt, hl15⟩ := hc
        obtain ⟨r, hr'⟩ : ∃ r, l[i]? = some r := ⟨l[i], List.getElem?_eq_getElem hlt⟩
        have hin := il r (List.mem_of_getElem? hr')
        rcases hla with hl0 | ⟨bl, f, d, kd, cs, rfl, hfe, hat⟩
        · rw [hl0] at hr'; simp at hr'
        obtain ⟨a1, a2⟩ := hat i r hr'
        have hee := hg1.find hfe
        have d7 := (fresh_findS f7 hee).2
        have d6 := (fresh_findS f6 hee).2
        have d4 := (fresh_findS f4 hee).2
        have i1 : (i : Int) < (l.length : Int) := by omega
        have i2 : (i : Int) < 15 := by omega
        have hs1 : (l.take (i + 1)).foldl rawV x0 = rawV t r := by rw [List.take_add_one, hr', List.foldl_append, ← ht]; rfl
        have er : Value.agg r.cells.toArray = r.v := rfl
        simp only [push_cast, seval, reduceCtorEq, i1, i2, hlt, hl15, hee, d7, d6, d4, a1, a2, hb7, hb6, er]
        refine useL [_, _, _] (lawwrite_R hv0 hfw2 hin) (ViR.rd _) hgm ⟨f7, f6, f4, trivial⟩ fun w M2 hg2 hL2 hq2 => ?_
        have hq0 := hq2
        obtain ⟨wb, wr, ww, wc, rfl, e1, e2, e3, e4⟩ := hq2
        obtain ⟨r1, m1, rfl⟩ := StR.slice e1
        obtain ⟨r2, m2, rfl⟩ := LiR.slice e2
        obtain ⟨r3, m3, rfl⟩ := LiR.slice e3
        obtain ⟨r4, m4, rfl⟩ := LiR.slice e4
        simp only [push_cast, seval, reduceCtorEq, hb7, hb6, wrap_i64' (show -9223372036854775808 ≤ (i : Int) + 1 ∧ (i : Int) + 1 ≤ 9223372036854775807 by omega)]
        refine ⟨subH_gr (N := []) trivial hg2, (i + 1, [.slice r1 (rawV t r).base.length m1, .slice r2 (rawV t r).reads.length m2, .slice r3 (rawV t r).writes.length m3, .slice r4 (rawV t r).cells.length m4], M2), ⟨hlt, by dsimp only; omega, hg1.trans hg2, hL2.1, hL2.2.1, hL2.2.2.1, by dsimp only; rw [hs1]; exact hq0⟩, by dsimp only; omega, ?_⟩
        first | exact ⟨rfl, rfl⟩ | exact ⟨rfl, rfl, subH_self _⟩ | exact ⟨rfl, rfl, subH_self _, rfl⟩ | exact ⟨rfl, ⟨rfl, subH_self _⟩, rfl⟩
      · have hfin : (l.take i).foldl rawV x0 = viewR s a b l := by
          rw [hx0]
          unfold viewR
          rcases Nat.lt_or_ge i 15 with h | h
          · obtain rfl : i = l.length := by omega
            rw [List.take_length, List.take_of_length_le (by omega)]
          · obtain rfl : i = 15 := by omega
            rfl
        rw [← ht] at hfin
        rw [← hfin]
        by_cases hlt : i < l.length
        · have i1 : (i : Int) < (l.length : Int) := by omega
          have i2 : ¬ (i : Int) < 15 := by omega
          have i3 : ¬ i < 15 := by omega
          simp only [push_cast, seval, reduceCtorEq, i1, i2, hlt, i3, hb7, hb6]
          exact doneK2 [_, _, _] hg1 (ViR.rd _) hv0
        · have i1 : ¬ (i : Int) < (l.length : Int) := by omega
          simp only [push_cast, seval, reduceCtorEq, i1, hlt, hb7, hb6]
          exact doneK2 [_, _, _] hg1 (ViR.rd _) hv0
end Go.Proofs.YtincedmdkdjakaaGreat
set_option linter.unusedSimpArgs false
set_option linter.unusedVariables false
namespace Go.Ev
def at1 : Ad := ⟨1 :: List.replicate 19 0, by decide⟩
def w1 : W := W.ofInt 1
def w7 : W := W.ofInt 7
def w8 : W := W.ofInt 8
def bA : Ac := ⟨at1, W.zero, 1, .empty, [⟨w1, w7⟩]⟩
def bB : Ac := ⟨at1, W.zero, 1, .empty, [⟨w1, w8⟩]⟩
def kA : Ky := ⟨at1, true, w1⟩
def cA : Ce := Ce.sv kA w8
theorem w7_ne : w7 ≠ W.zero := by decide
theorem w8_ne : w8 ≠ W.zero := by decide
theorem right1 {k v : W} (h : v ≠ W.zero) : rightB [⟨k, v⟩] = true := rightB_iff.2 ⟨srt_one _, fun x hx => by rw [List.mem_singleton.1 hx]; exact h, by simp⟩
theorem mayx {k v : W} (h : v ≠ W.zero) : mayA ⟨at1, W.zero, 1, .empty, [⟨k, v⟩]⟩ = true := by
  unfold mayA
  rw [right1 h]
  simp
theorem riA1 : RiS [bA] := ⟨fun x hx => by rw [List.mem_singleton.1 hx]; exact mayx w7_ne, fun x hx => by rw [List.mem_singleton.1 hx]; rfl, List.pairwise_singleton _ _, by decide⟩
theorem kA_may : mayKy kA := .inl rfl
theorem rightk1 : rightKs [kA] := ⟨fun k hk => by rw [List.mem_singleton.1 hk]; exact kA_may, List.pairwise_singleton _ _, by decide⟩
theorem rightk0 : rightKs [] := ⟨fun k hk => by (cases hk), List.Pairwise.nil, by decide⟩
def vR : Vi := ⟨[bA], [kA], [], []⟩
def vW : Vi := ⟨[bA], [], [kA], []⟩
def vX : Vi := ⟨[bA], [], [kA], [cA]⟩
theorem riR : RiV vR := RiV.open riA1 rightk1 rightk0
theorem riW : RiV vW := RiV.open riA1 rightk0 rightk1
theorem openR : openV [bA] [kA] [] = (vR, 0) := openV_ok riR
theorem openW : openV [bA] [] [kA] = (vW, 0) := openV_ok riW
theorem findA1 : findS [bA] at1 = bA := findS_some riA1.srt (x := bA) (by simp)
theorem readA1 : readB [bA] kA = Ce.sv kA w7 := by
  unfold readB
  rw [if_pos (show kA.slot = true from rfl)]
  show Ce.mk kA W.zero 0 .empty (getW (findS [bA] at1).slots w1) = _
  rw [findA1]
  rfl
theorem slotR : slotV vR at1 w1 = (w7, 0) := by
  unfold slotV
  show ((readV vR kA).1.val, (readV vR kA).2) = _
  rw [readV_none riR (.inr (by simp [vR])) rfl]
  show ((readB [bA] kA).val, _) = _
  rw [readA1]; rfl
theorem cA_may : mayC cA := by
  unfold mayC
  rw [if_pos (show cA.key.slot = true from rfl)]
  exact ⟨rfl, rfl, rfl⟩
theorem putR1 : putV vR cA = (vR, 30) := putV_not ⟨riR, cA_may⟩ (by simp [vR])
theorem accR1 : accV vR at1 = (⟨Ad.zero, W.zero, 0, .empty, []⟩, 30) := by
  unfold accV
  rw [readV_not riR (k := ⟨at1, false, W.zero⟩) (by
    rintro (h | h)
    · simp [vR] at h
    · rw [show vR.reads = [kA] from rfl, List.mem_singleton] at h
      exact absurd (congrArg Ky.slot h) (by decide)), if_neg (by exact (by decide : ¬ (30 : Int) = 0))]
theorem putW1 : putV vW cA = (vX, 0) := by
  rw [putV_ok ⟨riW, cA_may⟩ (by show kA ∈ [kA]; simp)]
  rfl
theorem riX : RiV vX := by
  have := putV_ri riW cA
  rwa [putW1] at this
theorem slotX : slotV vX at1 w1 = (w8, 0) := by
  unfold slotV
  show ((readV vX kA).1.val, (readV vX kA).2) = _
  rw [readV_is riX (c := cA) (.inl (by show kA ∈ [kA]; simp)) (by unfold cellOf; simp [vX, cA, Ce.sv])]
  rfl
theorem mergeA : mergeV [bA] vX = ([bB], 0) := by
  rw [mergeV_ok ⟨riA1, riX⟩]
  show goM [bA] [cA] = _
  have hm : mergeL [⟨w1, w7⟩] [⟨w1, w8⟩] = [⟨w1, w8⟩] := by
    unfold mergeL
    rw [joinS, if_neg (Nat.lt_irrefl _), if_neg (Nat.lt_irrefl _), joinS]
    simp [pickM, w8_ne]
  have ha : appC (findS [bA] cA.key.at_) cA = (bB, 0) := by
    show appC (findS [bA] at1) cA = _
    rw [findA1]
    unfold appC
    rw [if_pos (show cA.key.slot = true from rfl)]
    show ((⟨at1, W.zero, 1, .empty, (mergeR [⟨w1, w7⟩] [⟨w1, w8⟩]).1⟩ : Ac), (mergeR [⟨w1, w7⟩] [⟨w1, w8⟩]).2) = _
    rw [mergeR_val (rightB_iff.1 (right1 w7_ne)), hm]
    rfl
  have hp : putS [bA] bB = [bB] := by
    unfold putS
    have h0 : emptyA bB = false := rfl
    have h1 : decide (bA.at_.num < bB.at_.num) = false := decide_eq_false (Nat.lt_irrefl _)
    have h2 : decide (bB.at_.num < bA.at_.num) = false := decide_eq_false (Nat.lt_irrefl _)
    simp [h0, h1, h2]
  have hs : setS [bA] bB = ([bB], 0) := by
    rw [setS_val (setS_ok.2 ⟨rightS_iff.2 riA1, show mayA bB = true from mayx w8_ne, by rw [hp]; decide⟩), hp]
  rw [goM_cons, ha]
  dsimp only
  rw [hs, if_pos rfl, if_pos rfl]
  rfl
theorem openB : openV [] [kA, kA] [] = (⟨[], [], [], []⟩, 1) := openV_bad fun h => kA.lt_irr (List.pairwise_cons.1 h.rk.2.1 |>.1 kA (by simp))
theorem riBad : ¬ RiV ⟨[], [], [], [Ce.z Ky.zero]⟩ := fun h => by
  have := h.wr (Ce.z Ky.zero) (by simp)
  cases this
end Go.Ev
