/- Texts of this claim, merged by program: Bb Bc Rk Rl Bd Be Bf Bg Bh Bi. -/
import Derived.Test.YtincedmdkdjakaaGreatZfAo
import Derived.Test.YtincedmdkdjakaaGreatZfAf
set_option linter.unusedSimpArgs false
set_option linter.unusedVariables false
namespace Go.Ev
theorem Vi.ext {x y : Vi} (h1 : x.base = y.base) (h2 : x.reads = y.reads) (h3 : x.writes = y.writes) (h4 : x.cells = y.cells) : x = y := by
  cases x; cases y; cases h1; cases h2; cases h3; cases h4; rfl
instance : DecidableEq Vi := fun x y => if h : x.base = y.base ∧ x.reads = y.reads ∧ x.writes = y.writes ∧ x.cells = y.cells then .isTrue (Vi.ext h.1 h.2.1 h.2.2.1 h.2.2.2) else .isFalse fun e => h (by rw [e]; exact ⟨rfl, rfl, rfl, rfl⟩)
end Go.Ev
namespace Go.Proofs.YtincedmdkdjakaaGreat
open Go Go.Ev Go.Proofs
set_option maxRecDepth 100000
set_option maxHeartbeats 4000000
theorem rSame_R {M : Hp} {R W' R2 W2 : List Ky} {v u : Value} (hv : SeR R W' v M) (hu : SeR R2 W2 u M) (hn : R.length ≤ 1000000000000) (hn2 : W'.length ≤ 1000000000000) : ∀ M0, roM M0 → cellsAt M0 = cellsAt M → CallsV Tryz.prog 72 [v, u] M0 (Ret0 (.bool (decide (R = R2) && decide (W' = W2)))) :=
  fun _ hr he => rSame_ok (SeR.rd _ _ _ _ _ he.symm hv) (SeR.rd _ _ _ _ _ he.symm hu) hr.marks hn hn2
def plSV : Plans := fun i => if i = 1 then [(0, 9)] else if i = 6 then [] else Tryz.pl31 i
attribute [push_cast] plSV
theorem r11same_ok {M : Hp} {x y : Vi} {v u : Value} (hv : ViR x v M) (hu : ViR y u M) (hm : marksOf M = []) (hb : x.Fit) (hb2 : y.Fit) : CallsV Tryz.prog 31 [v, u] M (Ret0 (.bool (decide (x = y)))) := by
  obtain ⟨n1, n2, n3, n4, n5⟩ := hb
  obtain ⟨m1, m2, m3, m4, m5⟩ := hb2
  obtain ⟨vb, vr, vw, vc, rfl, h1, h2, h3, h4⟩ := hv
  obtain ⟨ub, ur, uw, uc, rfl, g1, g2, g3, g4⟩ := hu
  have hse : SeR x.reads x.writes (.agg #[vr, vw]) M := ⟨vr, vw, rfl, h2, h3⟩
  have gse : SeR y.reads y.writes (.agg #[ur, uw]) M := ⟨ur, uw, rfl, g2, g3⟩
  obtain ⟨pb, kb, rfl⟩ := h1.slice
  obtain ⟨pr, kr, rfl⟩ := LiR.slice h2
  obtain ⟨pw, kw, rfl⟩ := LiR.slice h3
  obtain ⟨pc, kc, rfl, hla⟩ := LiR.openE h4
  obtain ⟨qb, lb, rfl⟩ := g1.slice
  obtain ⟨qr, lr, rfl⟩ := LiR.slice g2
  obtain ⟨qw, lw, rfl⟩ := LiR.slice g3
  obtain ⟨qc, lc, rfl, hlb⟩ := LiR.openE g4
  refine callsO gU4_ok Tryz.mix plSV Tryz.func31 rfl Tryz.ntmps31 Tryz.results31 rfl (by first | rfl | assumption) (Nat.le_of_ble_eq_true rfl) (by kernel_rfl) ?_
  simp only [push_cast, seval, reduceCtorEq]
  intro b2 hb2 b3 hb3
  refine regO gU4_ok ?_
  simp only [push_cast, seval, reduceCtorEq, hb3]
  refine useP [_, _] (fun M1 hr1 he1 => sameS_ok (StR.rd _ _ _ _ he1.symm h1) (StR.rd _ _ _ _ he1.symm g1) hr1.marks (by omega) (by omega) (fun z hz => by have := n2 z hz; omega) (fun z hz => by have := m2 z hz; omega)) ⟨hb3.2.2, hb2, trivial⟩ ?_
  by_cases c1 : x.base = y.base
  case neg =>
    have e : decide (x = y) = false := decide_eq_false fun h => c1 (by rw [h])
    simp only [push_cast, seval, reduceCtorEq, hb3, decide_eq_false c1, e]
  simp only [push_cast, seval, reduceCtorEq, hb3, decide_eq_true c1]
  refine useP [_, _] (rSame_R hse gse (by omega) (by omega)) ⟨hb3.2.2, hb2, trivial⟩ ?_
  by_cases c2 : x.reads = y.reads
  case neg =>
    have e : decide (x = y) = false := decide_eq_false fun h => c2 (by rw [h])
    simp only [push_cast, seval, reduceCtorEq, hb3, decide_eq_false c2, Bool.false_and, e]
  by_cases c3 : x.writes = y.writes
  case neg =>
    have e : decide (x = y) = false := decide_eq_false fun h => c3 (by rw [h])
    simp only [push_cast, seval, reduceCtorEq, hb3, decide_eq_false c3, decide_eq_true c2, Bool.true_and, e]
  by_cases c4 : x.cells.length = y.cells.length
  case neg =>
    have e : decide (x = y) = false := decide_eq_false fun h => c4 (by rw [h])
    have e1 : (((x.cells.length : Nat) : Int) != ((y.cells.length : Nat) : Int)) = true := by rw [bne_iff_ne]; omega
    simp only [push_cast, seval, reduceCtorEq, hb3, decide_eq_true c3, decide_eq_true c2, Bool.true_and, e1, e]
  have e4 : (((x.cells.length : Nat) : Int) != ((y.cells.length : Nat) : Int)) = false := by rw [c4]; exact bne_self_eq_false _
  simp only [push_cast, seval, reduceCtorEq, hb3, decide_eq_true c3, decide_eq_true c2, Bool.true_and, e4]
  refine loopO gU4_ok (pl := plSV) Tryz.mix (X := Nat)
    (fun i => ([(2, .pointer (some ⟨b2, 0, none⟩)), (3, .pointer (some ⟨b3, 0, none⟩)), (5, .int .i64 i)], ⟨b3, 0, .cel 33, [.slice qb y.base.length lb, .slice qr y.reads.length lr, .slice qw y.writes.length lw, .slice qc y.cells.length lc]⟩ :: ⟨b2, 0, .cel 33, [.slice pb x.base.length kb, .slice pr x.reads.length kr, .slice pw x.writes.length kw, .slice pc x.cells.length kc]⟩ :: M))
    (fun i => i ≤ x.cells.length ∧ x.cells.take i = y.cells.take i) (fun i => x.cells.length - i) 0 ?_ ?_ (by kernel_rfl) ?_
  · exact ⟨Nat.zero_le _, rfl⟩
  · simp only [push_cast, seval, reduceCtorEq]
  · rintro i ⟨hi, ht⟩
    dsimp only at hi ht ⊢
    rcases Nat.lt_or_ge i x.cells.length with hlt | hge
    · obtain ⟨a, ha⟩ : ∃ a, x.cells[i]? = some a := ⟨x.cells[i], List.getElem?_eq_getElem hlt⟩
      obtain ⟨b, hb⟩ : ∃ b, y.cells[i]? = some b := ⟨y.cells[i]'(by omega), List.getElem?_eq_getElem (by omega)⟩
      rcases hla with h0 | ⟨ba, f, d, kd, cs, rfl, he, hat⟩
      · rw [h0] at ha; simp at ha
      rcases hlb with h0 | ⟨bb, f', d', kd', cs', rfl, he', hat'⟩
      · rw [h0] at hb; simp at hb
      obtain ⟨a1, a2⟩ := hat i a ha
      obtain ⟨b1, b2'⟩ := hat' i b hb
      have i1 : (i : Int) < (x.cells.length : Int) := by omega
      have i2 : (i : Int) < (y.cells.length : Int) := by omega
      have i3 : i < y.cells.length := by omega
      have k1 := (fresh_findS hb2 he).2
      have k2 := (fresh_findS hb3.2.2 he).2
      have k3 := (fresh_findS hb2 he').2
      have k4 := (fresh_findS hb3.2.2 he').2
      simp only [push_cast, seval, reduceCtorEq, i1, hlt, hb3]
      refine drawO gU4_ok Tryz.mix (Tryz.pl31 6) (by kernel_rfl) ?_
      by_cases hxy : a = b
      · simp only [push_cast, seval, reduceCtorEq, i1, i2, i3, hlt, he, he', a1, a2, b1, b2', hb3, k1, k2, k3, k4, decide_eq_true hxy, Bool.not_true, wrap_i64' (show -9223372036854775808 ≤ (i : Int) + 1 ∧ (i : Int) + 1 ≤ 9223372036854775807 by omega)]
        exact ⟨i + 1, ⟨hlt, by rw [List.take_add_one, List.take_add_one, ha, hb, ht, hxy]⟩, by omega, rfl⟩
      · have e : decide (x = y) = false := decide_eq_false fun h => hxy (by rw [h, hb] at ha; cases ha; rfl)
        rw [e]
        simp only [push_cast, seval, reduceCtorEq, i1, i2, i3, hlt, he, he', a1, a2, b1, b2', hb3, k1, k2, k3, k4, decide_eq_false hxy, Bool.not_false]
    · obtain rfl : i = x.cells.length := by omega
      rw [List.take_length, c4, List.take_length] at ht
      have e : decide (x = y) = true := decide_eq_true (Vi.ext c1 c2 c3 ht)
      rw [e]
      simp only [push_cast, seval, reduceCtorEq, hb3, Nat.lt_irrefl, Int.lt_irrefl]
theorem r11same_R {M : Hp} {x y : Vi} {v u : Value} (hv : ViR x v M) (hu : ViR y u M) (hb : x.Fit) (hb2 : y.Fit) : ∀ M0, roM M0 → cellsAt M0 = cellsAt M → CallsV Tryz.prog 31 [v, u] M0 (Ret0 (.bool (decide (x = y)))) :=
  fun _ hr he => r11same_ok (ViR.rd _ _ _ _ he.symm hv) (ViR.rd _ _ _ _ he.symm hu) hr.marks hb hb2
end Go.Proofs.YtincedmdkdjakaaGreat
set_option linter.unusedSimpArgs false
set_option linter.unusedVariables false
namespace Go.Ev
structure R2 where
  a : Int
  b : Int
def R2.cells (r : R2) : List Value := [.int .i64 r.a, .int .i64 r.b]
def R2.v (r : R2) : Value := .agg #[.int .i64 r.a, .int .i64 r.b]
def R2.In (r : R2) : Prop := i64In r.a ∧ i64In r.b
noncomputable def keyA : Int → Int → Ky := hid fun a b => if pickN b 5 = 0 then ⟨addrA a, false, W.zero⟩ else ⟨addrA a, true, W.ofInt (pickN b 5 - 1 : Nat)⟩
theorem keyA_eq (a b : Int) : keyA a b = if pickN b 5 = 0 then ⟨addrA a, false, W.zero⟩ else ⟨addrA a, true, W.ofInt (pickN b 5 - 1 : Nat)⟩ := by unfold keyA; rw [hid_eq]
theorem keyA_may (a b : Int) : mayKy (keyA a b) := by
  rw [keyA_eq]
  split
  · exact .inr rfl
  · exact .inl rfl
noncomputable def keyAG : List Value → Option Value
  | [.int .i64 a, .int .i64 b] => if i64In a ∧ i64In b then some (keyA a b).v else none
  | _ => none
attribute [push_cast] keyAG
end Go.Ev
namespace Go.Proofs.YtincedmdkdjakaaGreat
open Go Go.Ev Go.Proofs
set_option maxRecDepth 100000
set_option maxHeartbeats 4000000
theorem pickY10_ok (c n : Int) (hc : i64In c) (hn : 0 < n) (hn2 : i64In n) : CallsV Tryz.prog 50 [.int .i64 c, .int .i64 n] [] (Ret0 (.int .i64 (pickN c n))) := by
  have hn0 : ¬ n = 0 := by omega
  have h2 := pickN_lt c hn
  unfold i64In at hc hn2
  refine callsO (noG_ok _) Tryz.mix Tryz.pl50 Tryz.func50 rfl Tryz.ntmps50 Tryz.results50 rfl (by first | rfl | assumption) (Nat.le_of_ble_eq_true rfl) (by kernel_rfl) ?_
  rcases Int.lt_or_le c 0 with h | h
  · have e1 : pickN c n = (-(c + 1)).tmod n := by
      have := Int.emod_nonneg (-(c + 1)) hn0
      unfold pickN; rw [if_pos h, Int.tmod_eq_emod_of_nonneg (by omega)]; omega
    have e2 : (0 - (c + 1)) = -(c + 1) := by omega
    simp only [push_cast, seval, reduceCtorEq, h, wrap_i64' (show -9223372036854775808 ≤ c + 1 ∧ c + 1 ≤ 9223372036854775807 by omega), hn0, e2, wrap_i64' (show -9223372036854775808 ≤ -(c + 1) ∧ -(c + 1) ≤ 9223372036854775807 by omega), e1]
  · have h' : ¬ c < 0 := by omega
    have e1 : pickN c n = c.tmod n := by
      have := Int.emod_nonneg c hn0
      unfold pickN; rw [if_neg h', Int.tmod_eq_emod_of_nonneg (by omega)]; omega
    simp only [push_cast, seval, reduceCtorEq, h', hn0, e1]
theorem pickY10G_ok (args : List Value) (v : Value) (h : pickG args = some v) : CallsV Tryz.prog 50 args [] (Ret0 v) := by
  unfold pickG at h
  split at h
  · split at h
    · rename_i c n hh; cases h; exact pickY10_ok c n hh.1 hh.2.1 hh.2.2
    · cases h
  · cases h
theorem pickY11_ok (c n : Int) (hc : i64In c) (hn : 0 < n) (hn2 : i64In n) : CallsV Tryz.prog 27 [.int .i64 c, .int .i64 n] [] (Ret0 (.int .i64 (pickN c n))) := by
  have hn0 : ¬ n = 0 := by omega
  have h2 := pickN_lt c hn
  unfold i64In at hc hn2
  refine callsO (noG_ok _) Tryz.mix Tryz.pl27 Tryz.func27 rfl Tryz.ntmps27 Tryz.results27 rfl (by first | rfl | assumption) (Nat.le_of_ble_eq_true rfl) (by kernel_rfl) ?_
  rcases Int.lt_or_le c 0 with h | h
  · have e1 : pickN c n = (-(c + 1)).tmod n := by
      have := Int.emod_nonneg (-(c + 1)) hn0
      unfold pickN; rw [if_pos h, Int.tmod_eq_emod_of_nonneg (by omega)]; omega
    have e2 : (0 - (c + 1)) = -(c + 1) := by omega
    simp only [push_cast, seval, reduceCtorEq, h, wrap_i64' (show -9223372036854775808 ≤ c + 1 ∧ c + 1 ≤ 9223372036854775807 by omega), hn0, e2, wrap_i64' (show -9223372036854775808 ≤ -(c + 1) ∧ -(c + 1) ≤ 9223372036854775807 by omega), e1]
  · have h' : ¬ c < 0 := by omega
    have e1 : pickN c n = c.tmod n := by
      have := Int.emod_nonneg c hn0
      unfold pickN; rw [if_neg h', Int.tmod_eq_emod_of_nonneg (by omega)]; omega
    simp only [push_cast, seval, reduceCtorEq, h', hn0, e1]
theorem pickY11G_ok (args : List Value) (v : Value) (h : pickG args = some v) : CallsV Tryz.prog 27 args [] (Ret0 v) := by
  unfold pickG at h
  split at h
  · split at h
    · rename_i c n hh; cases h; exact pickY11_ok c n hh.1 hh.2.1 hh.2.2
    · cases h
  · cases h
noncomputable def gB0 : Gam := (addG 27 pickG (addG 50 pickG gU4))
attribute [push_cast] gB0
theorem gB0_ok : GamOk Tryz.prog gB0 := (addG_ok pickY11G_ok (addG_ok pickY10G_ok gU4_ok))
theorem lawkey_ok (a b : Int) (ha : i64In a) (hb : i64In b) : CallsV Tryz.prog 15 [.int .i64 a, .int .i64 b] [] (Ret0 (keyA a b).v) := by
  have j5 : i64In 5 := by decide
  have p5 := pickN_lt b (show (0 : Int) < 5 by decide)
  rw [keyA_eq]
  obtain ⟨x, hx⟩ : ∃ x, x = pickN b 5 := ⟨_, rfl⟩
  rw [← hx] at p5 ⊢
  refine callsO gB0_ok Tryz.mix Tryz.pl15 Tryz.func15 rfl Tryz.ntmps15 Tryz.results15 rfl (by first | rfl | assumption) (Nat.le_of_ble_eq_true rfl) (by kernel_rfl) ?_
  simp only [push_cast, seval, reduceCtorEq]
  intro b4
  rcases Nat.eq_zero_or_pos x with rfl | h0
  · simp only [push_cast, seval, reduceCtorEq, ha, hb, j5, ← hx, Ky.oF]
  · have h1 : ¬ x = 0 := by omega
    have h2 : ((x : Int) == 0) = false := beq_eq_false_iff_ne.2 (by omega)
    have h3 : (x : Int) - 1 = ((x - 1 : Nat) : Int) := by omega
    have k1 : -9223372036854775808 ≤ (x : Int) - 1 ∧ (x : Int) - 1 ≤ 9223372036854775807 := by omega
    rw [if_neg h1, ← h3]
    simp only [push_cast, seval, reduceCtorEq, ha, hb, j5, ← hx, h2, wrap_i64' k1, k1.1, k1.2, Ad.k1, Ad.k2, Ad.k3, Ad.k4, Ky.oT]
theorem keyAG_ok (args : List Value) (v : Value) (h : keyAG args = some v) : CallsV Tryz.prog 15 args [] (Ret0 v) := by
  unfold keyAG at h
  split at h
  · split at h
    · rename_i a b hh; cases h; exact lawkey_ok a b hh.1 hh.2
    · cases h
  · cases h
noncomputable def gB1 : Gam := (addG 15 keyAG gB0)
attribute [push_cast] gB1
theorem gB1_ok : GamOk Tryz.prog gB1 := (addG_ok keyAG_ok gB0_ok)
end Go.Proofs.YtincedmdkdjakaaGreat
set_option linter.unusedSimpArgs false
set_option linter.unusedVariables false
namespace Go.Ev
open Go.ChangeShapes Go.WideShapes Go.ChangeAt Go.RowKit
section
variable {H : Type} {enc : TypeId × Value → H} {P : Program} {w : World} {base : Nat} {spare : Nat → Bool} {held : Bool} {T : TypeId → Prop}
theorem slice_of_cells (K : Kids P T) {d fuel : Nat} {t e : TypeId} {ks : List FK} {cs : List Value} {x : DataW H × List MemPlace} (ht : P.underlying t = some (.slice e)) (hT : T t) (hks : flatT P d e = some ks) (hpos : 0 < P.cellsOf e)
    (hf : DataW.trod enc P w base spare held fuel t cs = some x) : ∃ (p : Option Addr) (len cap : Nat) (f : Nat → List Value), cs = [.slice p len cap] ∧ len ≤ cap ∧ cap ≤ maxLen ∧ (∀ i, i < len → All2 FK.ok ks (f i)) ∧
      (len = 0 ∨ ∃ b o, p = some ⟨b, o, none⟩ ∧ cellsAt (roW w) b o (len * P.cellsOf e) = some ((List.range len).flatMap f)) := by
  obtain ⟨dd, ps⟩ := x
  rcases Deep.open_slice ht hf with ⟨h1, _⟩ | ⟨a', len, cap, m, n, D, Pl, h1, hb, hl, hm, hmm, _, hx⟩
  · exact ⟨none, 0, 0, fun _ => [], h1, Nat.le_refl _, Nat.zero_le _, fun i hi => absurd hi (Nat.not_lt_zero _), .inl rfl⟩
  · have hlm : len ≤ m := by rw [hmm]; split <;> omega
    obtain ⟨f, hf⟩ := Deep.choose_lt (α := List Value) (n := len) (p := fun i cs' => w.cells? base (a'.add (i * P.cellsOf e)) (P.cellsOf e) = some cs' ∧ All2 FK.ok ks cs') fun i hi => by
      obtain ⟨cs', h2, h3⟩ := hx i (by omega)
      exact ⟨cs', h2, flat_of_trod K d (K.slice hT ht) hks h3⟩
    refine ⟨some a', len, cap, f, h1, hl, hm, fun i hi => (hf i hi).2, ?_⟩
    rcases Nat.eq_zero_or_pos len with h0 | h0
    · exact .inl h0
    · obtain ⟨h4, h5⟩ := roW_row f hpos (fun i hi => (hf i hi).1) h0
      refine .inr ⟨a'.block, a'.off, ?_, h5⟩
      rw [← h4]
theorem liR_of_cells (K : Kids P T) {α : Type} {c : α → List Value} {s d fuel : Nat} {t e : TypeId} {ks : List FK} {cs : List Value} {x : DataW H × List MemPlace} (Q : α → Prop) (hc : ∀ cs, All2 FK.ok ks cs → ∃ y, cs = c y ∧ Q y) (ht : P.underlying t = some (.slice e)) (hT : T t) (hks : flatT P d e = some ks) (hpos : 0 < s) (hs : P.cellsOf e = s)
    (hf : DataW.trod enc P w base spare held fuel t cs = some x) : ∃ l p cap, cs = [.slice p l.length cap] ∧ LiR c s (roW w) l (.slice p l.length cap) ∧ l.length ≤ cap ∧ cap ≤ maxLen ∧ ∀ y ∈ l, Q y := by
  obtain ⟨p, len, cap, f, rfl, hl, hm, hf, hcc⟩ := slice_of_cells K ht hT hks (by omega) hf
  by_cases h0 : len = 0
  · subst h0
    exact ⟨[], p, cap, rfl, ⟨p, cap, rfl, .inl rfl⟩, hl, hm, fun y hy => by cases hy⟩
  obtain ⟨y0, _, _⟩ := hc _ (hf 0 (Nat.pos_of_ne_zero h0))
  haveI : Inhabited α := ⟨y0⟩
  obtain ⟨g, hg⟩ := Deep.choose_lt (α := α) (n := len) (p := fun i y => f i = c y ∧ Q y) fun i hi => hc _ (hf i hi)
  refine ⟨(List.range len).map g, p, cap, by simp, ⟨p, cap, by simp, ?_⟩, by simpa using hl, hm, fun y hy => ?_⟩
  · rcases hcc with rfl | ⟨b, o, rfl, hcc⟩
    · exact .inl rfl
    · refine .inr ⟨b, o, rfl, ?_⟩
      rw [hs] at hcc
      simp only [List.length_map, List.length_range]
      rw [hcc, List.flatMap_map, List.flatMap_def, List.flatMap_def]
      congr 2
      exact List.map_congr_left fun i hi => (hg i (List.mem_range.1 hi)).1
  · obtain ⟨i, hi, rfl⟩ := List.mem_map.1 hy
    exact (hg i (List.mem_range.1 hi)).2
end
end Go.Ev
namespace Go.Proofs.YtincedmdkdjakaaGreat
open Go Go.Ev Go.Proofs Go.ChangeShapes Go.WideShapes Go.ChangeAt Go.RowKit
set_option maxRecDepth 100000
set_option maxHeartbeats 4000000
theorem r4_cells {cs : List Value} (h : All2 FK.ok [.int .i64, .int .i64, .int .i64, .int .i64] cs) : ∃ x : R4, cs = x.cells ∧ x.In := by
  cases h with
  | cons a0 h =>
    cases h with
    | cons a1 h =>
      cases h with
      | cons a2 h =>
        cases h with
        | cons a3 h =>
          cases h
          obtain ⟨x0, rfl, w0⟩ := a0
          obtain ⟨x1, rfl, w1⟩ := a1
          obtain ⟨x2, rfl, w2⟩ := a2
          obtain ⟨x3, rfl, w3⟩ := a3
          exact ⟨⟨x0, x1, x2, x3⟩, rfl, i64_wf w0, i64_wf w1, i64_wf w2, i64_wf w3⟩
theorem raw4_of {H : Type} {enc : TypeId × Value → H} {W0 : World} {r : Reach} {b0 base : Nat} {spare : Nat → Bool} {held : Bool} {v : Value} {dd : DataW H} {ps : List MemPlace} (hval : Value.okWide Tryz.prog W0 r b0 22 v)
    (h : DataW.Trod enc Tryz.prog W0 base spare held 22 v dd ps) : ∃ l, LiR R4.cells 4 (roW W0) l v ∧ ∀ x ∈ l, x.In := by
  have hu : Tryz.prog.underlying 22 = some (.slice 43) := by kernel_rfl
  obtain ⟨a, len, cap, rfl⟩ := okWide_slice hu hval
  obtain ⟨fuel, hf⟩ := h
  obtain ⟨l, p, k, g, r0, _, _, q⟩ := liR_of_cells kids (c := R4.cells) (s := 4) (d := 8) (e := 43) (ks := [.int .i64, .int .i64, .int .i64, .int .i64]) _ (fun _ => r4_cells) hu (by show _ < _; decide +kernel) (by kernel_rfl) (by decide) (by decide +kernel) hf
  simp only [Value.cells, List.cons.injEq, Value.slice.injEq, and_true] at g
  obtain ⟨rfl, rfl, rfl⟩ := g
  exact ⟨l, r0, q⟩
end Go.Proofs.YtincedmdkdjakaaGreat
set_option linter.unusedSimpArgs false
set_option linter.unusedVariables false
namespace Go.Proofs.YtincedmdkdjakaaGreat
open Go Go.Ev Go.Proofs Go.ChangeShapes Go.WideShapes Go.ChangeAt Go.RowKit
set_option maxRecDepth 100000
set_option maxHeartbeats 4000000
end Go.Proofs.YtincedmdkdjakaaGreat
set_option linter.unusedSimpArgs false
set_option linter.unusedVariables false
namespace Go.Ev
noncomputable def cellR (k : Ky) (c d : Int) : Ce := if k.slot = true then Ce.sv k (W.ofInt (pickN c 3 : Nat)) else Ce.ac k (W.ofInt (pickN c 4 : Nat)) (pickN d 2 : Nat) .empty
theorem cellR_key (k : Ky) (c d : Int) : (cellR k c d).key = k := by unfold cellR; split <;> rfl
theorem cellR_may {k : Ky} (hk : mayKy k) (c d : Int) : mayC (cellR k c d) := by
  unfold cellR mayC
  split
  · rename_i h
    rw [if_pos (show (Ce.sv k _).key.slot = true from h)]
    exact ⟨rfl, rfl, rfl⟩
  · rename_i h
    have hp := pickN_lt d (show (0 : Int) < 2 by decide)
    rw [if_neg (show ¬ (Ce.ac k _ _ _).key.slot = true from h)]
    refine ⟨hk.resolve_left h, rfl, ?_, ?_, ?_⟩
    · exact Int.natCast_nonneg _
    · show ((pickN d 2 : Nat) : Int) ≤ _
      omega
    · exact Nat.zero_le _
theorem insC_len (c : Ce) : ∀ l : List Ce, (insC c l).length ≤ l.length + 1
  | [] => Nat.le_refl _
  | x :: r => by
    unfold insC
    have := insC_len c r
    split
    · simp
    · split
      · simp
      · simp only [List.length_cons]; omega
theorem putV_parts (v : Vi) (c : Ce) : (putV v c).1.base = v.base ∧ (putV v c).1.reads = v.reads ∧ (putV v c).1.writes = v.writes ∧ (putV v c).1.cells.length ≤ v.cells.length + 1 := by
  unfold putV
  split
  · split
    · exact ⟨rfl, rfl, rfl, insC_len _ _⟩
    · exact ⟨rfl, rfl, rfl, Nat.le_succ _⟩
  · exact ⟨rfl, rfl, rfl, Nat.le_succ _⟩
structure Vi.Few (v : Vi) (n : Nat) : Prop where
  ri : RiV v
  b : v.base.length ≤ 9
  sl : ∀ y ∈ v.base, y.slots.length ≤ 1000
  r : v.reads.length ≤ 15
  w : v.writes.length ≤ 15
  c : v.cells.length ≤ n
theorem Vi.Few.fit {v : Vi} {n : Nat} (h : v.Few n) (hn : n ≤ 1000000000) : v.Fit := ⟨by have := h.b; omega, fun y hy => by have := h.sl y hy; omega, by have := h.r; omega, by have := h.w; omega, by have := h.c; omega⟩
theorem Vi.Few.put {v : Vi} {n : Nat} (h : v.Few n) (c : Ce) : (putV v c).1.Few (n + 1) := by
  obtain ⟨h1, h2, h3, h4⟩ := putV_parts v c
  exact ⟨putV_ri h.ri c, by rw [h1]; exact h.b, by rw [h1]; exact h.sl, by rw [h2]; exact h.r, by rw [h3]; exact h.w, by have := h.c; omega⟩
end Go.Ev
namespace Go.Proofs.YtincedmdkdjakaaGreat
open Go Go.Ev Go.Proofs
set_option maxRecDepth 100000
set_option maxHeartbeats 4000000
end Go.Proofs.YtincedmdkdjakaaGreat
set_option linter.unusedSimpArgs false
set_option linter.unusedVariables false
namespace Go.Ev
noncomputable def insY (k : Ky) : List Ky → List Ky
  | [] => [k]
  | x :: r => open Classical in if k.lt x then k :: x :: r else if k = x then x :: r else x :: insY k r
theorem insY_mem {k y : Ky} : ∀ {l : List Ky}, y ∈ insY k l ↔ y = k ∨ y ∈ l
  | [] => by unfold insY; simp
  | x :: r => by
    unfold insY
    split
    · rw [List.mem_cons]
    · split
      · rename_i h
        constructor
        · exact .inr
        · rintro (rfl | h2)
          · rw [h]; exact List.mem_cons_self ..
          · exact h2
      · rw [List.mem_cons, insY_mem, List.mem_cons]
        constructor
        · rintro (h | h | h)
          · exact .inr (.inl h)
          · exact .inl h
          · exact .inr (.inr h)
        · rintro (h | h | h)
          · exact .inr (.inl h)
          · exact .inl h
          · exact .inr (.inr h)
theorem insY_srt {k : Ky} : ∀ {l : List Ky}, l.Pairwise Ky.lt → (insY k l).Pairwise Ky.lt
  | [], _ => List.pairwise_singleton _ _
  | x :: r, h => by
    obtain ⟨h1, h2⟩ := List.pairwise_cons.1 h
    unfold insY
    split
    · rename_i hlt
      refine List.pairwise_cons.2 ⟨fun z hz => ?_, h⟩
      rcases List.mem_cons.1 hz with rfl | hz
      · exact hlt
      · exact Ky.lt_trans hlt (h1 z hz)
    · split
      · exact h
      · rename_i hn hne
        refine List.pairwise_cons.2 ⟨fun z hz => ?_, insY_srt h2⟩
        rcases insY_mem.1 hz with rfl | hz
        · rcases Ky.tri z x with h | h | h
          · exact absurd h hn
          · exact absurd h hne
          · exact h
        · exact h1 z hz
theorem foldP_true {k : Ky} : ∀ {l q : List Ky}, l.foldl (stepP k) (q, true) = (q ++ l, true)
  | [], q => by simp
  | x :: r, q => by
    have h : stepP k (q, true) x = (q ++ [x], true) := by
      unfold stepP
      split
      · rfl
      · rw [if_neg (by simp)]
    rw [List.foldl_cons, h, foldP_true, List.append_assoc]; rfl
theorem foldP_ins {k : Ky} : ∀ {l q : List Ky}, l.Pairwise Ky.lt → (if (l.foldl (stepP k) (q, false)).2 = true then (l.foldl (stepP k) (q, false)).1 else (l.foldl (stepP k) (q, false)).1 ++ [k]) = q ++ insY k l
  | [], q, _ => rfl
  | x :: r, q, h => by
    obtain ⟨h1, h2⟩ := List.pairwise_cons.1 h
    rw [List.foldl_cons]
    unfold insY
    rcases Ky.tri k x with h3 | h3 | h3
    · have h4 : ordY k x < 0 := ordY_neg.2 h3
      rw [show stepP k (q, false) x = (q ++ [k] ++ [x], true) by unfold stepP; rw [if_neg (by omega), if_pos ⟨h4, rfl⟩], foldP_true, if_pos h3]
      simp
    · have h4 : ordY k x = 0 := ordY_zero.2 h3
      rw [show stepP k (q, false) x = (q ++ [x], true) by unfold stepP; rw [if_pos h4], foldP_true, if_pos (show (q ++ [x] ++ r, true).2 = true from rfl), if_neg (by rw [h3]; exact x.lt_irr), if_pos h3]
      simp
    · have h4 : 0 < ordY k x := ordY_pos.2 h3
      rw [show stepP k (q, false) x = (q ++ [x], false) by unfold stepP; rw [if_neg (by omega), if_neg (by omega)], foldP_ins h2, if_neg (fun h => Ky.lt_asymm h h3), if_neg (fun e => Ky.lt_ne h3 e.symm)]
      simp
theorem putK_ins {l : List Ky} {k : Ky} (h : l.Pairwise Ky.lt) : putK l k = insY k l := by
  have := foldP_ins (k := k) (q := []) h
  rw [List.nil_append] at this
  exact this
theorem setK_go : ∀ (l : List Ky) {q : List Ky}, q.Pairwise Ky.lt → (l.foldl putK q).Pairwise Ky.lt ∧ ∀ y, y ∈ l.foldl putK q ↔ y ∈ q ∨ y ∈ l
  | [], q, h => ⟨h, fun y => by simp⟩
  | x :: r, q, h => by
    rw [List.foldl_cons, putK_ins h]
    obtain ⟨h1, h2⟩ := setK_go r (insY_srt (k := x) h)
    refine ⟨h1, fun y => ?_⟩
    rw [h2, insY_mem, List.mem_cons]
    constructor
    · rintro ((h | h) | h)
      · exact .inr (.inl h)
      · exact .inl h
      · exact .inr (.inr h)
    · rintro (h | h | h)
      · exact .inl (.inr h)
      · exact .inl (.inl h)
      · exact .inr h
theorem setK_srt (l : List Ky) : (setK l).Pairwise Ky.lt := (setK_go l List.Pairwise.nil).1
theorem setK_mem {l : List Ky} {y : Ky} : y ∈ setK l ↔ y ∈ l := by
  unfold setK
  rw [(setK_go l List.Pairwise.nil).2]
  simp
theorem setK_right {l : List Ky} (h : ∀ k ∈ l, mayKy k) (hn : l.length ≤ 200) : rightKs (setK l) := ⟨fun k hk => h k (setK_mem.1 hk), setK_srt l, by have := setK_len l; omega⟩
theorem RiV.open {s : List Ac} {R W' : List Ky} (hs : RiS s) (h1 : rightKs R) (h2 : rightKs W') : RiV ⟨s, R, W', []⟩ := ⟨fun c hc => by (cases hc), fun c hc => by (cases hc), List.Pairwise.nil, hs, h1, h2⟩
end Go.Ev
namespace Go.Proofs.YtincedmdkdjakaaGreat
open Go Go.Ev Go.Proofs
set_option maxRecDepth 100000
set_option maxHeartbeats 4000000
end Go.Proofs.YtincedmdkdjakaaGreat
set_option linter.unusedSimpArgs false
set_option linter.unusedVariables false
namespace Go.Ev
def at1 : Ad := ⟨1 :: List.replicate 19 0, by decide⟩
def w1 : W := W.ofInt 1
def w7 : W := W.ofInt 7
def w8 : W := W.ofInt 8
def bA : Ac := ⟨at1, W.zero, 1, .empty, [⟨w1, w7⟩]⟩
def bB : Ac := ⟨at1, W.zero, 1, .empty, [⟨w1, w8⟩]⟩
def kA : Ky := ⟨at1, true, w1⟩
def cA : Ce := Ce.sv kA w8
theorem w7_ne : w7 ≠ W.zero := by decide
theorem w8_ne : w8 ≠ W.zero := by decide
theorem right1 {k v : W} (h : v ≠ W.zero) : rightB [⟨k, v⟩] = true := rightB_iff.2 ⟨srt_one _, fun x hx => by rw [List.mem_singleton.1 hx]; exact h, by simp⟩
theorem mayx {k v : W} (h : v ≠ W.zero) : mayA ⟨at1, W.zero, 1, .empty, [⟨k, v⟩]⟩ = true := by
  unfold mayA
  rw [right1 h]
  simp
theorem riA1 : RiS [bA] := ⟨fun x hx => by rw [List.mem_singleton.1 hx]; exact mayx w7_ne, fun x hx => by rw [List.mem_singleton.1 hx]; rfl, List.pairwise_singleton _ _, by decide⟩
theorem kA_may : mayKy kA := .inl rfl
theorem rightk1 : rightKs [kA] := ⟨fun k hk => by rw [List.mem_singleton.1 hk]; exact kA_may, List.pairwise_singleton _ _, by decide⟩
theorem rightk0 : rightKs [] := ⟨fun k hk => by (cases hk), List.Pairwise.nil, by decide⟩
def vR : Vi := ⟨[bA], [kA], [], []⟩
def vW : Vi := ⟨[bA], [], [kA], []⟩
def vX : Vi := ⟨[bA], [], [kA], [cA]⟩
theorem riR : RiV vR := RiV.open riA1 rightk1 rightk0
theorem riW : RiV vW := RiV.open riA1 rightk0 rightk1
theorem openR : openV [bA] [kA] [] = (vR, 0) := openV_ok riR
theorem openW : openV [bA] [] [kA] = (vW, 0) := openV_ok riW
theorem findA1 : findS [bA] at1 = bA := findS_some riA1.srt (x := bA) (by simp)
theorem readA1 : readB [bA] kA = Ce.sv kA w7 := by
  unfold readB
  rw [if_pos (show kA.slot = true from rfl)]
  show Ce.mk kA W.zero 0 .empty (getW (findS [bA] at1).slots w1) = _
  rw [findA1]
  rfl
theorem slotR : slotV vR at1 w1 = (w7, 0) := by
  unfold slotV
  show ((readV vR kA).1.val, (readV vR kA).2) = _
  rw [readV_none riR (.inr (by simp [vR])) rfl]
  show ((readB [bA] kA).val, _) = _
  rw [readA1]; rfl
theorem cA_may : mayC cA := by
  unfold mayC
  rw [if_pos (show cA.key.slot = true from rfl)]
  exact ⟨rfl, rfl, rfl⟩
theorem putR1 : putV vR cA = (vR, 30) := putV_not ⟨riR, cA_may⟩ (by simp [vR])
theorem accR1 : accV vR at1 = (⟨Ad.zero, W.zero, 0, .empty, []⟩, 30) := by
  unfold accV
  rw [readV_not riR (k := ⟨at1, false, W.zero⟩) (by
    rintro (h | h)
    · simp [vR] at h
    · rw [show vR.reads = [kA] from rfl, List.mem_singleton] at h
      exact absurd (congrArg Ky.slot h) (by decide)), if_neg (by exact (by decide : ¬ (30 : Int) = 0))]
theorem putW1 : putV vW cA = (vX, 0) := by
  rw [putV_ok ⟨riW, cA_may⟩ (by show kA ∈ [kA]; simp)]
  rfl
theorem riX : RiV vX := by
  have := putV_ri riW cA
  rwa [putW1] at this
theorem slotX : slotV vX at1 w1 = (w8, 0) := by
  unfold slotV
  show ((readV vX kA).1.val, (readV vX kA).2) = _
  rw [readV_is riX (c := cA) (.inl (by show kA ∈ [kA]; simp)) (by unfold cellOf; simp [vX, cA, Ce.sv])]
  rfl
theorem mergeA : mergeV [bA] vX = ([bB], 0) := by
  rw [mergeV_ok ⟨riA1, riX⟩]
  show goM [bA] [cA] = _
  have hm : mergeL [⟨w1, w7⟩] [⟨w1, w8⟩] = [⟨w1, w8⟩] := by
    unfold mergeL
    rw [joinS, if_neg (Nat.lt_irrefl _), if_neg (Nat.lt_irrefl _), joinS]
    simp [pickM, w8_ne]
  have ha : appC (findS [bA] cA.key.at_) cA = (bB, 0) := by
    show appC (findS [bA] at1) cA = _
    rw [findA1]
    unfold appC
    rw [if_pos (show cA.key.slot = true from rfl)]
    show ((⟨at1, W.zero, 1, .empty, (mergeR [⟨w1, w7⟩] [⟨w1, w8⟩]).1⟩ : Ac), (mergeR [⟨w1, w7⟩] [⟨w1, w8⟩]).2) = _
    rw [mergeR_val (rightB_iff.1 (right1 w7_ne)), hm]
    rfl
  have hp : putS [bA] bB = [bB] := by
    unfold putS
    have h0 : emptyA bB = false := rfl
    have h1 : decide (bA.at_.num < bB.at_.num) = false := decide_eq_false (Nat.lt_irrefl _)
    have h2 : decide (bB.at_.num < bA.at_.num) = false := decide_eq_false (Nat.lt_irrefl _)
    simp [h0, h1, h2]
  have hs : setS [bA] bB = ([bB], 0) := by
    rw [setS_val (setS_ok.2 ⟨rightS_iff.2 riA1, show mayA bB = true from mayx w8_ne, by rw [hp]; decide⟩), hp]
  rw [goM_cons, ha]
  dsimp only
  rw [hs, if_pos rfl, if_pos rfl]
  rfl
theorem openB : openV [] [kA, kA] [] = (⟨[], [], [], []⟩, 1) := openV_bad fun h => kA.lt_irr (List.pairwise_cons.1 h.rk.2.1 |>.1 kA (by simp))
theorem riBad : ¬ RiV ⟨[], [], [], [Ce.z Ky.zero]⟩ := fun h => by
  have := h.wr (Ce.z Ky.zero) (by simp)
  cases this
end Go.Ev
set_option linter.unusedSimpArgs false
set_option linter.unusedVariables false
namespace Go.Ev
theorem ViR.e4 {x : Vi} {v : Value} {H : Hp} (h : ViR x v H) : ∃ p k p1 k1 p2 k2 p3 k3, v = .agg #[.slice p x.base.length k, .slice p1 x.reads.length k1, .slice p2 x.writes.length k2, .slice p3 x.cells.length k3] := by
  obtain ⟨vb, vr, vw, vc, rfl, h1, h2, h3, h4⟩ := h
  obtain ⟨p, k, rfl⟩ := h1.slice
  obtain ⟨p1, k1, rfl⟩ := LiR.slice h2
  obtain ⟨p2, k2, rfl⟩ := LiR.slice h3
  obtain ⟨p3, k3, rfl⟩ := LiR.slice h4
  exact ⟨p, k, p1, k1, p2, k2, p3, k3, rfl⟩
theorem LiR.singl {α : Type} {c : α → List Value} {s b : Nat} {kd : Kind} {x : α} {k : Nat} {H : Hp} (hf : findE H b = some ⟨b, 0, kd, c x⟩) (hs : (c x).length = s) : LiR c s H [x] (.slice (some ⟨b, 0, none⟩) 1 k) := by
  refine ⟨_, k, rfl, .inr ⟨b, 0, rfl, ?_⟩⟩
  unfold cellsAt
  rw [hf]
  simp only [Nat.sub_zero, subL, List.drop_zero, List.length_singleton, Nat.one_mul, Nat.zero_add, List.flatMap_cons, List.flatMap_nil, List.append_nil]
  rw [if_pos (Nat.zero_le _), if_pos (by omega), List.take_of_length_le (by omega)]
theorem LiR.two25 {x y : Ky} {b : Nat} {kd : Kind} {k : Nat} {H : Hp} (hf : findE H b = some ⟨b, 0, kd, x.cells ++ y.cells⟩) : LiR Ky.cells 25 H [x, y] (.slice (some ⟨b, 0, none⟩) 2 k) := by
  refine ⟨_, k, rfl, .inr ⟨b, 0, rfl, ?_⟩⟩
  have h1 := x.len
  have h2 := y.len
  have h3 : (x.cells ++ y.cells).length = 50 := by rw [List.length_append]; omega
  unfold cellsAt
  rw [hf]
  simp only [Nat.sub_zero, subL, List.drop_zero, List.length_cons, List.length_nil, Nat.zero_add, List.flatMap_cons, List.flatMap_nil, List.append_nil]
  rw [if_pos (Nat.zero_le _), if_pos (by omega), List.take_of_length_le (by omega)]
theorem fit1 {R W' : List Ky} {C : List Ce} (h1 : R.length ≤ 2) (h2 : W'.length ≤ 2) (h3 : C.length ≤ 2) : Vi.Fit ⟨[bA], R, W', C⟩ :=
  ⟨by simp, fun y hy => by rw [List.mem_singleton.1 hy]; decide, by dsimp only; omega, by dsimp only; omega, by dsimp only; omega⟩
end Go.Ev
namespace Go.Proofs.YtincedmdkdjakaaGreat
open Go Go.Ev Go.Proofs
set_option maxRecDepth 100000
set_option maxHeartbeats 4000000
def plAwk11 : Plans := fun i => if i = 7 then [] else if i = 8 then [(0, 9)] else if i = 14 then [(0, 9)] else if i = 16 then [] else Tryz.pl10 i
attribute [push_cast] plAwk11
theorem awk11_ok : CallsV Tryz.prog 10 [] [] (Ret0 (.bool true)) := by
  have k1 : i64In 1 := by decide
  have k7 : i64In 7 := by decide
  have k8 : i64In 8 := by decide
  refine callsO gB1_ok Tryz.mix plAwk11 Tryz.func10 rfl Tryz.ntmps10 Tryz.results10 rfl (by first | rfl | assumption) (Nat.le_of_ble_eq_true rfl) (by kernel_rfl) ?_
  simp only [push_cast, seval, reduceCtorEq]
  intro b1
  intro b2 hb2
  simp only [push_cast, seval, reduceCtorEq, hb2]
  intro b3 hb3
  simp only [push_cast, seval, reduceCtorEq, hb2, hb3]
  intro b4 hb4
  simp only [push_cast, seval, reduceCtorEq, hb2, hb3, hb4]
  intro b5 hb5
  have hM0 : findE [⟨b5, 0, .vec 45 25 1, kA.cells⟩, ⟨b3, 0, .vec 53 27 1, bA.cells (.slice (some ⟨b2, 0, none⟩) 1 1)⟩, ⟨b2, 0, .vec 91 8 1, Sl.cells ⟨w1, w7⟩⟩] b3 = some ⟨b3, 0, .vec 53 27 1, bA.cells (.slice (some ⟨b2, 0, none⟩) 1 1)⟩ := by simp only [push_cast, seval, reduceCtorEq, hb5]
  have hM1 : findE [⟨b5, 0, .vec 45 25 1, kA.cells⟩, ⟨b3, 0, .vec 53 27 1, bA.cells (.slice (some ⟨b2, 0, none⟩) 1 1)⟩, ⟨b2, 0, .vec 91 8 1, Sl.cells ⟨w1, w7⟩⟩] b2 = some ⟨b2, 0, .vec 91 8 1, Sl.cells ⟨w1, w7⟩⟩ := by simp only [push_cast, seval, reduceCtorEq, hb5, hb3]
  have hM2 : findE [⟨b5, 0, .vec 45 25 1, kA.cells⟩, ⟨b3, 0, .vec 53 27 1, bA.cells (.slice (some ⟨b2, 0, none⟩) 1 1)⟩, ⟨b2, 0, .vec 91 8 1, Sl.cells ⟨w1, w7⟩⟩] b5 = some ⟨b5, 0, .vec 45 25 1, kA.cells⟩ := by simp only [push_cast, seval, reduceCtorEq]
  obtain ⟨M0, hM⟩ : ∃ M0 : Hp, M0 = [⟨b5, 0, .vec 45 25 1, kA.cells⟩, ⟨b3, 0, .vec 53 27 1, bA.cells (.slice (some ⟨b2, 0, none⟩) 1 1)⟩, ⟨b2, 0, .vec 91 8 1, Sl.cells ⟨w1, w7⟩⟩] := ⟨_, rfl⟩
  have hL0 : freshN [⟨b4, 0, .cel 45, kA.cells⟩, ⟨b1, 0, .cel 36, at1.cells⟩] M0 := by
    rw [hM]
    exact ⟨⟨hb5.2.1, hb5.1, hb4.1, hb4.2.1, hb4.2.2.1, hb4.2.2.2.1, trivial⟩, ⟨hb5.2.2.2.2.2.2.2, hb5.2.2.2.2.2.2.1, hb3.2.2.2, hb3.2.2.1, hb2.2, hb2.1, trivial⟩, trivial⟩
  refine CallsV.pre (H' := [⟨b4, 0, .cel 45, kA.cells⟩, ⟨b1, 0, .cel 36, at1.cells⟩] ++ M0) (by rw [hM]; exact (List.Perm.swap _ _ _).trans (.cons _ (List.perm_middle (l₁ := [_, _, _]) (l₂ := [])))) (by rw [hM]; simp [marksOf]) ?_
  rw [← hM] at hM0 hM1 hM2
  have hm0 : marksOf M0 = [] := by rw [hM]; simp [marksOf]
  have hAs : StR [bA] (.slice (some ⟨b3, 0, none⟩) 1 1) M0 := ⟨[(bA, .slice (some ⟨b2, 0, none⟩) 1 1)], rfl, LiR.singl hM0 (acC_len _), fun x hx => by rw [List.mem_singleton.1 hx]; exact LiR.singl hM1 rfl⟩
  have hKs : KsR [kA] (.slice (some ⟨b5, 0, none⟩) 1 1) M0 := LiR.singl hM2 kA.len
  clear hM hM0 hM1 hM2
  refine useL [_, _] (M := M0) (vopen_ok hAs ⟨_, _, rfl, hKs, LiR.nil _ _⟩ (fit1 (by simp) (by simp) (by simp))) (VeR.rd _) hm0 hL0 fun w M1 hg1 hL1 hq => ?_
  rw [openR] at hq
  obtain ⟨uu, rfl, hvR⟩ := hq
  have hvR : ViR vR uu M1 := hvR
  obtain ⟨p, k, p1, k1', p2, k2, p3, k3, rfl⟩ := hvR.e4
  simp only [push_cast, seval, reduceCtorEq]
  intro b6 hb6
  simp only [push_cast, seval, reduceCtorEq, hb6, hb4]
  have fitR : vR.Fit := fit1 (by simp) (by simp) (by simp)
  refine takeR [_, _, _] (v := .tuple #[w7.v, .int .i64 0]) (by have := vslot_R (a := at1) (q := w1) hvR fitR; rw [slotR] at this; exact this) ⟨hb6.2.2.2.2, hL1⟩ ?_
  simp only [push_cast, seval, reduceCtorEq, hb6, hb4]
  intro b7 hb7
  simp only [push_cast, seval, reduceCtorEq, hb7, hb6, hb4]
  have hLX : freshN [⟨b7, 0, .cel 39, w7.cells⟩, ⟨b6, 0, .cel 33, [.slice p vR.base.length k, .slice p1 vR.reads.length k1', .slice p2 vR.writes.length k2, .slice p3 vR.cells.length k3]⟩, ⟨b4, 0, .cel 45, kA.cells⟩, ⟨b1, 0, .cel 36, at1.cells⟩] M1 := ⟨hb7.2.2.2.2.2.2, hb6.2.2.2.2, hL1⟩
  have fB6 : findE (⟨b7, 0, .cel 39, w7.cells⟩ :: ⟨b6, 0, .cel 33, [.slice p vR.base.length k, .slice p1 vR.reads.length k1', .slice p2 vR.writes.length k2, .slice p3 vR.cells.length k3]⟩ :: ⟨b4, 0, .cel 45, kA.cells⟩ :: ⟨b1, 0, .cel 36, at1.cells⟩ :: M1) b6 = some ⟨b6, 0, .cel 33, [.slice p vR.base.length k, .slice p1 vR.reads.length k1', .slice p2 vR.writes.length k2, .slice p3 vR.cells.length k3]⟩ := by simp only [push_cast, seval, reduceCtorEq, hb7]
  have fB1 : findE (⟨b7, 0, .cel 39, w7.cells⟩ :: ⟨b6, 0, .cel 33, [.slice p vR.base.length k, .slice p1 vR.reads.length k1', .slice p2 vR.writes.length k2, .slice p3 vR.cells.length k3]⟩ :: ⟨b4, 0, .cel 45, kA.cells⟩ :: ⟨b1, 0, .cel 36, at1.cells⟩ :: M1) b1 = some ⟨b1, 0, .cel 36, at1.cells⟩ := by simp only [push_cast, seval, reduceCtorEq, hb7, hb6, hb4]
  refine drawS gB1_ok Tryz.mix [(1, .pointer (some ⟨b1, 0, none⟩)), (2, .func (.func 41) #[] #[]), (3, .slice (some ⟨b3, 0, none⟩) 1 1), (4, .pointer (some ⟨b4, 0, none⟩)), (5, .pointer (some ⟨b6, 0, none⟩)), (6, .int .i64 0), (7, .pointer (some ⟨b7, 0, none⟩)), (8, .int .i64 0)]
      (fun i val => match i with
        | 0 => val 0 = .agg #[.slice p vR.base.length k, .slice p1 vR.reads.length k1', .slice p2 vR.writes.length k2, .slice p3 vR.cells.length k3]
        | 1 => val 1 = at1.v
        | 2 => val 2 = .func (.func 41) #[] #[]
        | 3 => val 3 = (W.ofInt 1).v
        | 4 => val 4 = .func (.func 41) #[] #[]
        | 5 => val 5 = (W.ofInt 8).v
        | 6 => ∃ q l q1 l1 q2 l2 q3 l3, val 6 = .tuple #[.agg #[.slice q vR.base.length l, .slice q1 vR.reads.length l1, .slice q2 vR.writes.length l2, .slice q3 vR.cells.length l3], .int .i64 30]
        | 7 => val 7 = val 6 ∧ ∃ q l q1 l1 q2 l2 q3 l3, val 6 = .tuple #[.agg #[.slice q vR.base.length l, .slice q1 vR.reads.length l1, .slice q2 vR.writes.length l2, .slice q3 vR.cells.length l3], .int .i64 30]
        | 8 => ∃ q l q1 l1 q2 l2 q3 l3, val 8 = .agg #[.slice q vR.base.length l, .slice q1 vR.reads.length l1, .slice q2 vR.writes.length l2, .slice q3 vR.cells.length l3] ∧ val 7 = .tuple #[val 8, .int .i64 30]
        | 9 => val 9 = .int .i64 30
        | 10 => ∃ b, val 10 = .pointer (some ⟨b, 0, none⟩)
        | 12 => val 12 = .int .i64 30
        | _ => True)
      (fun i val N => match i with
        | 6 => allWr N ∧ marksOf N = [] ∧ VeR (vR, 30) (val 6) (N ++ M1)
        | 7 => N = []
        | 8 => N = []
        | 10 => ∃ b, val 10 = .pointer (some ⟨b, 0, none⟩) ∧ N = [⟨b, 0, .cel 33, [.slice none 0 0, .slice none 0 0, .slice none 0 0, .slice none 0 0]⟩]
        | 11 => ∃ b q l q1 l1 q2 l2 q3 l3, val 10 = .pointer (some ⟨b, 0, none⟩) ∧ val 8 = .agg #[.slice q vR.base.length l, .slice q1 vR.reads.length l1, .slice q2 vR.writes.length l2, .slice q3 vR.cells.length l3] ∧ N = [⟨b, 0, .cel 33, [.slice q vR.base.length l, .slice q1 vR.reads.length l1, .slice q2 vR.writes.length l2, .slice q3 vR.cells.length l3]⟩]
        | _ => N = []) (fun i => if i = 11 then [10] else []) [6, 11] (by kernel_rfl) (by kernel_rfl) (by kernel_rfl) ?_ (by rfl) (by decide) (by kernel_rfl) ?_ ?_ ?_ ?_ ?_
  · simp only [push_cast, seval, reduceCtorEq, subT]
  · intro i hi hiF
    replace hi : i < 13 := hi
    obtain rfl | rfl | rfl | rfl | rfl | rfl | rfl | rfl | rfl | rfl | rfl | rfl | rfl : i = 0 ∨ i = 1 ∨ i = 2 ∨ i = 3 ∨ i = 4 ∨ i = 5 ∨ i = 6 ∨ i = 7 ∨ i = 8 ∨ i = 9 ∨ i = 10 ∨ i = 11 ∨ i = 12 := by omega
    all_goals first
      | exact .inl fun _ _ h => h
      | exact absurd (by decide) hiF
      | exact .inr (by kernel_rfl)
  · intro i o ho val val' h1 h2 hV
    have hi := (Array.getElem?_eq_some_iff.1 ho).1
    replace hi : i < 13 := hi
    obtain rfl | rfl | rfl | rfl | rfl | rfl | rfl | rfl | rfl | rfl | rfl | rfl | rfl : i = 0 ∨ i = 1 ∨ i = 2 ∨ i = 3 ∨ i = 4 ∨ i = 5 ∨ i = 6 ∨ i = 7 ∨ i = 8 ∨ i = 9 ∨ i = 10 ∨ i = 11 ∨ i = 12 := by omega
    · first
        | exact trivial
        | exact hV
        | exact h1.trans hV
        | (rw [h1]; exact hV)
    · first
        | exact trivial
        | exact hV
        | exact h1.trans hV
        | (rw [h1]; exact hV)
    · first
        | exact trivial
        | exact hV
        | exact h1.trans hV
        | (rw [h1]; exact hV)
    · first
        | exact trivial
        | exact hV
        | exact h1.trans hV
        | (rw [h1]; exact hV)
    · first
        | exact trivial
        | exact hV
        | exact h1.trans hV
        | (rw [h1]; exact hV)
    · first
        | exact trivial
        | exact hV
        | exact h1.trans hV
        | (rw [h1]; exact hV)
    · first
        | exact trivial
        | exact hV
        | exact h1.trans hV
        | (rw [h1]; exact hV)
    · simp only [List.getElem?_toArray, List.getElem?_cons_zero, List.getElem?_cons_succ, Option.some.injEq] at ho; subst ho
      have h5 := h2 6 (by kernel_rfl)
      obtain ⟨a1, a2⟩ := hV
      exact ⟨by rw [h1, h5]; exact a1, by rw [h5]; exact a2⟩
    · simp only [List.getElem?_toArray, List.getElem?_cons_zero, List.getElem?_cons_succ, Option.some.injEq] at ho; subst ho
      have h6 := h2 7 (by kernel_rfl)
      obtain ⟨q, l, q1, l1, q2, l2, q3, l3, a1, a2⟩ := hV
      exact ⟨q, l, q1, l1, q2, l2, q3, l3, by rw [h1]; exact a1, by rw [h6, h1]; exact a2⟩
    · first
        | exact trivial
        | exact hV
        | exact h1.trans hV
        | (rw [h1]; exact hV)
    · first
        | exact trivial
        | exact hV
        | exact h1.trans hV
        | (rw [h1]; exact hV)
    · first
        | exact trivial
        | exact hV
        | exact h1.trans hV
        | (rw [h1]; exact hV)
    · first
        | exact trivial
        | exact hV
        | exact h1.trans hV
        | (rw [h1]; exact hV)
  · intro i o ho val val' N h1 h2 hQ
    have hi := (Array.getElem?_eq_some_iff.1 ho).1
    replace hi : i < 13 := hi
    obtain rfl | rfl | rfl | rfl | rfl | rfl | rfl | rfl | rfl | rfl | rfl | rfl | rfl : i = 0 ∨ i = 1 ∨ i = 2 ∨ i = 3 ∨ i = 4 ∨ i = 5 ∨ i = 6 ∨ i = 7 ∨ i = 8 ∨ i = 9 ∨ i = 10 ∨ i = 11 ∨ i = 12 := by omega
    · first
        | exact trivial
        | exact hQ
        | exact h1.trans hQ
        | (rw [h1]; exact hQ)
    · first
        | exact trivial
        | exact hQ
        | exact h1.trans hQ
        | (rw [h1]; exact hQ)
    · first
        | exact trivial
        | exact hQ
        | exact h1.trans hQ
        | (rw [h1]; exact hQ)
    · first
        | exact trivial
        | exact hQ
        | exact h1.trans hQ
        | (rw [h1]; exact hQ)
    · first
        | exact trivial
        | exact hQ
        | exact h1.trans hQ
        | (rw [h1]; exact hQ)
    · first
        | exact trivial
        | exact hQ
        | exact h1.trans hQ
        | (rw [h1]; exact hQ)
    · first
        | exact trivial
        | exact hQ
        | exact h1.trans hQ
        | (rw [h1]; exact hQ)
    · first
        | exact trivial
        | exact hQ
        | exact h1.trans hQ
        | (rw [h1]; exact hQ)
    · first
        | exact trivial
        | exact hQ
        | exact h1.trans hQ
        | (rw [h1]; exact hQ)
    · first
        | exact trivial
        | exact hQ
        | exact h1.trans hQ
        | (rw [h1]; exact hQ)
    · first
        | exact trivial
        | exact hQ
        | exact h1.trans hQ
        | (rw [h1]; exact hQ)
    · simp only [List.getElem?_toArray, List.getElem?_cons_zero, List.getElem?_cons_succ, Option.some.injEq] at ho; subst ho
      have h10 := h2 10 (by kernel_rfl)
      have h7 := h2 8 (by kernel_rfl)
      obtain ⟨b, q, l, q1, l1, q2, l2, q3, l3, a1, a2, a3⟩ := hQ
      exact ⟨b, q, l, q1, l1, q2, l2, q3, l3, by rw [h10]; exact a1, by rw [h7]; exact a2, a3⟩
    · first
        | exact trivial
        | exact hQ
        | exact h1.trans hQ
        | (rw [h1]; exact hQ)
  · intro i o ho T' Y val mem hT hdep hus hfr hY hmY hapY
    have hi := (Array.getElem?_eq_some_iff.1 ho).1
    replace hi : i < 13 := hi
    have y6 := hY _ _ fB6
    have y1 := hY _ _ fB1
    have hM1Y : ∀ b e, findE M1 b = some e → findE Y b = some e := fun b e h => hY b e (find_behind hLX b e h)
    have t1 : getT T' 1 = some (.pointer (some ⟨b1, 0, none⟩)) := hT.1
    have t2 : getT T' 2 = some (.func (.func 41) #[] #[]) := hT.2.1
    have t5 : getT T' 5 = some (.pointer (some ⟨b6, 0, none⟩)) := hT.2.2.2.2.1
    obtain rfl | rfl | rfl | rfl | rfl | rfl | rfl | rfl | rfl | rfl | rfl | rfl | rfl : i = 0 ∨ i = 1 ∨ i = 2 ∨ i = 3 ∨ i = 4 ∨ i = 5 ∨ i = 6 ∨ i = 7 ∨ i = 8 ∨ i = 9 ∨ i = 10 ∨ i = 11 ∨ i = 12 := by omega
    · simp only [List.getElem?_toArray, List.getElem?_cons_zero, List.getElem?_cons_succ, Option.some.injEq] at ho; subst ho
      simp only [push_cast, seval, reduceCtorEq, List.flatMap_nil, List.flatMap_cons, List.append_nil, List.nil_append, t5, y6]
      exact ⟨[], rfl, trivial, rfl, upd_self _ _ _, rfl⟩
    · simp only [List.getElem?_toArray, List.getElem?_cons_zero, List.getElem?_cons_succ, Option.some.injEq] at ho; subst ho
      simp only [push_cast, seval, reduceCtorEq, List.flatMap_nil, List.flatMap_cons, List.append_nil, List.nil_append, t1, y1, Ad.agg, Ad.len]
      exact ⟨[], rfl, trivial, rfl, upd_self _ _ _, rfl⟩
    · simp only [List.getElem?_toArray, List.getElem?_cons_zero, List.getElem?_cons_succ, Option.some.injEq] at ho; subst ho
      simp only [push_cast, seval, reduceCtorEq, List.flatMap_nil, List.flatMap_cons, List.append_nil, List.nil_append, t2]
      exact ⟨[], rfl, trivial, rfl, upd_self _ _ _, rfl⟩
    · simp only [List.getElem?_toArray, List.getElem?_cons_zero, List.getElem?_cons_succ, Option.some.injEq] at ho; subst ho
      obtain ⟨v2, g2⟩ := hdep 2 (by kernel_rfl)
      replace g2 := g2 55 rfl
      rw [show val 2 = _ from v2] at g2
      simp only [push_cast, seval, reduceCtorEq, List.flatMap_nil, List.flatMap_cons, List.append_nil, List.nil_append, g2, k1]
      exact ⟨[], rfl, trivial, rfl, upd_self _ _ _, rfl⟩
    · simp only [List.getElem?_toArray, List.getElem?_cons_zero, List.getElem?_cons_succ, Option.some.injEq] at ho; subst ho
      simp only [push_cast, seval, reduceCtorEq, List.flatMap_nil, List.flatMap_cons, List.append_nil, List.nil_append, t2]
      exact ⟨[], rfl, trivial, rfl, upd_self _ _ _, rfl⟩
    · simp only [List.getElem?_toArray, List.getElem?_cons_zero, List.getElem?_cons_succ, Option.some.injEq] at ho; subst ho
      obtain ⟨v4, g4⟩ := hdep 4 (by kernel_rfl)
      replace g4 := g4 57 rfl
      rw [show val 4 = _ from v4] at g4
      simp only [push_cast, seval, reduceCtorEq, List.flatMap_nil, List.flatMap_cons, List.append_nil, List.nil_append, g4, k8]
      exact ⟨[], rfl, trivial, rfl, upd_self _ _ _, rfl⟩
    · simp only [List.getElem?_toArray, List.getElem?_cons_zero, List.getElem?_cons_succ, Option.some.injEq] at ho; subst ho
      obtain ⟨v0, g0⟩ := hdep 0 (by kernel_rfl)
      replace g0 := g0 53 rfl
      rw [show val 0 = _ from v0] at g0
      obtain ⟨v1, g1⟩ := hdep 1 (by kernel_rfl)
      replace g1 := g1 54 rfl
      rw [show val 1 = _ from v1] at g1
      obtain ⟨v3, g3⟩ := hdep 3 (by kernel_rfl)
      replace g3 := g3 56 rfl
      rw [show val 3 = _ from v3] at g3
      obtain ⟨v5, g5⟩ := hdep 5 (by kernel_rfl)
      replace g5 := g5 58 rfl
      rw [show val 5 = _ from v5] at g5
      simp only [push_cast, seval, reduceCtorEq, List.flatMap_nil, List.flatMap_cons, List.append_nil, List.nil_append, g0, g1, g3, g5]
      refine callS (M := M1) (by have := vsetslot_R (a := at1) (q := w1) (w := w8) hvR fitR; rw [show putV vR (Ce.sv ⟨at1, true, w1⟩ w8) = _ from putR1] at this; exact this) (VeR.rd _) hM1Y fun w N hw hm2 hf hq => ⟨N, rfl, hw, hm2, ?_, ?_⟩
      · obtain ⟨u, rfl, hu⟩ := hq
        have hu : ViR vR u _ := hu
        obtain ⟨q, l, q1, l1, q2, l2, q3, l3, rfl⟩ := hu.e4
        exact ⟨q, l, q1, l1, q2, l2, q3, l3, by rw [upd_self]⟩
      · rw [upd_self]
        exact ⟨hw, hm2, hq⟩
    · simp only [List.getElem?_toArray, List.getElem?_cons_zero, List.getElem?_cons_succ, Option.some.injEq] at ho; subst ho
      obtain ⟨v6, g6⟩ := hdep 6 (by kernel_rfl)
      replace g6 := g6 59 rfl
      simp only [push_cast, seval, reduceCtorEq, List.flatMap_nil, List.flatMap_cons, List.append_nil, List.nil_append, g6]
      refine ⟨[], rfl, trivial, rfl, ⟨?_, ?_⟩, rfl⟩
      · simp [upd]
      · simpa [upd] using v6
    · simp only [List.getElem?_toArray, List.getElem?_cons_zero, List.getElem?_cons_succ, Option.some.injEq] at ho; subst ho
      obtain ⟨v7, g7⟩ := hdep 7 (by kernel_rfl)
      replace g7 := g7 52 rfl
      obtain ⟨v7, q, l, q1, l1, q2, l2, q3, l3, v6⟩ := v7
      have v7 : val 7 = _ := v7
      rw [v7, v6] at g7
      simp only [push_cast, seval, reduceCtorEq, List.flatMap_nil, List.flatMap_cons, List.append_nil, List.nil_append, g7]
      refine ⟨[], rfl, trivial, rfl, ⟨q, l, q1, l1, q2, l2, q3, l3, ?_, ?_⟩, rfl⟩
      · simp [upd]
      · simp [upd, v7, v6]
    · simp only [List.getElem?_toArray, List.getElem?_cons_zero, List.getElem?_cons_succ, Option.some.injEq] at ho; subst ho
      obtain ⟨v7, g7⟩ := hdep 7 (by kernel_rfl)
      replace g7 := g7 52 rfl
      obtain ⟨v7, q, l, q1, l1, q2, l2, q3, l3, v6⟩ := v7
      have v7 : val 7 = _ := v7
      rw [v7, v6] at g7
      simp only [push_cast, seval, reduceCtorEq, List.flatMap_nil, List.flatMap_cons, List.append_nil, List.nil_append, g7]
      exact ⟨[], rfl, trivial, rfl, upd_self _ _ _, rfl⟩
    · simp only [List.getElem?_toArray, List.getElem?_cons_zero, List.getElem?_cons_succ, Option.some.injEq] at ho; subst ho
      simp only [push_cast, seval, reduceCtorEq, List.flatMap_nil, List.flatMap_cons, List.append_nil, List.nil_append]
      intro b hf
      exact ⟨[_], rfl, ⟨trivial, trivial⟩, rfl, ⟨b, upd_self _ _ _⟩, b, upd_self _ _ _, rfl⟩
    · simp only [List.getElem?_toArray, List.getElem?_cons_zero, List.getElem?_cons_succ, Option.some.injEq] at ho; subst ho
      obtain ⟨v8, g8⟩ := hdep 8 (by kernel_rfl)
      replace g8 := g8 60 rfl
      obtain ⟨v10, g10⟩ := hdep 10 (by kernel_rfl)
      replace g10 := g10 9 rfl
      obtain ⟨q, l, q1, l1, q2, l2, q3, l3, v8, -⟩ := v8
      have v8 : val 8 = _ := v8
      rw [v8] at g8
      obtain ⟨b10, v10, hN⟩ := hus 10 (List.mem_singleton.2 rfl)
      have v10 : val 10 = _ := v10
      rw [v10] at g10
      simp only [push_cast, seval, reduceCtorEq, List.flatMap_nil, List.flatMap_cons, List.append_nil, List.nil_append, g8, g10, hN, List.cons_append]
      refine ⟨[_], rfl, ⟨trivial, trivial⟩, rfl, b10, q, l, q1, l1, q2, l2, q3, l3, ?_, ?_, rfl⟩
      · simp [upd, v10]
      · simp [upd, v8]
    · simp only [List.getElem?_toArray, List.getElem?_cons_zero, List.getElem?_cons_succ, Option.some.injEq] at ho; subst ho
      obtain ⟨v9, g9⟩ := hdep 9 (by kernel_rfl)
      replace g9 := g9 61 rfl
      rw [show val 9 = _ from v9] at g9
      simp only [push_cast, seval, reduceCtorEq, List.flatMap_nil, List.flatMap_cons, List.append_nil, List.nil_append, g9]
      exact ⟨[], rfl, trivial, rfl, upd_self _ _ _, rfl⟩
  · intro val mem hV hQ hap hwr
    obtain ⟨w6, m6, -⟩ := hQ 6 (by decide)
    obtain ⟨b9, q, l, q1, l1, q2, l2, q3, l3, v10, v8, hN11⟩ := hQ 11 (by decide)
    have v10 : val 10 = _ := v10
    have v8 : val 8 = _ := v8
    have v12 : val 12 = .int .i64 30 := hV 12 (by decide)
    have hMM : List.flatMap mem [6, 11] ++ (⟨b7, 0, .cel 39, w7.cells⟩ :: ⟨b6, 0, .cel 33, [.slice p vR.base.length k, .slice p1 vR.reads.length k1', .slice p2 vR.writes.length k2, .slice p3 vR.cells.length k3]⟩ :: ⟨b4, 0, .cel 45, kA.cells⟩ :: ⟨b1, 0, .cel 36, at1.cells⟩ :: M1) = mem 6 ++ (⟨b9, 0, .cel 33, [.slice q vR.base.length l, .slice q1 vR.reads.length l1, .slice q2 vR.writes.length l2, .slice q3 vR.cells.length l3]⟩ :: ⟨b7, 0, .cel 39, w7.cells⟩ :: ⟨b6, 0, .cel 33, [.slice p vR.base.length k, .slice p1 vR.reads.length k1', .slice p2 vR.writes.length k2, .slice p3 vR.cells.length k3]⟩ :: ⟨b4, 0, .cel 45, kA.cells⟩ :: ⟨b1, 0, .cel 36, at1.cells⟩ :: M1) := by
      simp only [List.flatMap_cons, List.flatMap_nil, List.append_nil, hN11, List.append_assoc, List.cons_append, List.nil_append]
    rw [hMM] at hap ⊢
    have a6 := freshN_apart hap w6
    have hap' := (List.pairwise_append.1 hap).2.1
    have a9 := freshN_apart (A := [⟨b9, 0, .cel 33, [.slice q vR.base.length l, .slice q1 vR.reads.length l1, .slice q2 vR.writes.length l2, .slice q3 vR.cells.length l3]⟩]) hap' ⟨trivial, trivial⟩
    have q6f := freshN_sym a6
    simp only [push_cast, seval, reduceCtorEq, v8, v10, v12]
    refine WpV.perm (H' := ⟨b9, 0, .cel 33, [.slice q vR.base.length l, .slice q1 vR.reads.length l1, .slice q2 vR.writes.length l2, .slice q3 vR.cells.length l3]⟩ :: ⟨b7, 0, .cel 39, w7.cells⟩ :: ⟨b6, 0, .cel 33, [.slice p vR.base.length k, .slice p1 vR.reads.length k1', .slice p2 vR.writes.length k2, .slice p3 vR.cells.length k3]⟩ :: ⟨b4, 0, .cel 45, kA.cells⟩ :: ⟨b1, 0, .cel 36, at1.cells⟩ :: (M1 ++ mem 6)) ?_ ?_ ?_
    · exact List.perm_append_comm
    · simp [marks_append, marksOf, m6]
    refine WpV.slots [(1, .pointer (some ⟨b1, 0, none⟩)), (2, .func (.func 41) #[] #[]), (3, .slice (some ⟨b3, 0, none⟩) 1 1), (4, .pointer (some ⟨b4, 0, none⟩)), (5, .pointer (some ⟨b6, 0, none⟩)), (6, .int .i64 0), (7, .pointer (some ⟨b7, 0, none⟩)), (8, .int .i64 0), (10, .int .i64 30)] (by simp only [push_cast, seval, reduceCtorEq]) ?_
    have hg2 : Gr M1 (M1 ++ mem 6) := ⟨hg1.marks, mem 6, rfl, w6, m6⟩
    have hL2 : freshN [⟨b9, 0, .cel 33, [.slice q vR.base.length l, .slice q1 vR.reads.length l1, .slice q2 vR.writes.length l2, .slice q3 vR.cells.length l3]⟩, ⟨b7, 0, .cel 39, w7.cells⟩, ⟨b6, 0, .cel 33, [.slice p vR.base.length k, .slice p1 vR.reads.length k1', .slice p2 vR.writes.length k2, .slice p3 vR.cells.length k3]⟩, ⟨b4, 0, .cel 45, kA.cells⟩, ⟨b1, 0, .cel 36, at1.cells⟩] (M1 ++ mem 6) := ⟨fresh_app_iff.2 ⟨a9.1.2.2.2.2.2.2.2.2, q6f.1⟩, freshN_comb hLX ⟨q6f.2.1, q6f.2.2.1, q6f.2.2.2.1, q6f.2.2.2.2.1, trivial⟩⟩
    have hb9 : ¬b9 = b7 ∧ ¬b7 = b9 ∧ ¬b9 = b6 ∧ ¬b6 = b9 ∧ ¬b9 = b4 ∧ ¬b4 = b9 ∧ ¬b9 = b1 ∧ ¬b1 = b9 ∧ fresh b9 M1 := by have := a9.1; simp only [push_cast, seval, reduceCtorEq] at this; exact this
    generalize M1 ++ mem 6 = M2 at hg2 hL2 ⊢
    refine regO gB1_ok ?_
    simp only [push_cast, seval, reduceCtorEq, hb9, hb7, hb6, hb4]
    have hv2 := hvR.ext hg2.ext
    refine useP [_, _, _, _, _] (v := .tuple #[.agg (Ac.cells ⟨Ad.zero, W.zero, 0, .empty, []⟩ (.slice none 0 0)).toArray, .int .i64 30]) (by have := vaccount_R (a := at1) hv2 fitR; rw [accR1] at this; exact this) hL2 ?_
    simp only [push_cast, seval, reduceCtorEq, hb9, hb7, hb6, hb4]
    intro b11 hb11
    simp only [push_cast, seval, reduceCtorEq, hb11, hb9, hb7, hb6, hb4]
    intro bk hbk
    obtain ⟨d1, d2, d3, d4, d5, d6, d7, d8, d9, d10, d11, d12, dM⟩ := id hbk
    refine CallsV.pre (H' := [_, _, _, _, _, _] ++ (⟨bk, 0, .vec 45 25 1, kA.cells⟩ :: M2)) (List.perm_middle (l₁ := [_, _, _, _, _, _]) (l₂ := M2)).symm (by simp [marksOf]) ?_
    have hA2 := (hAs.ext hg1.ext).ext hg2.ext
    have hA3 : StR [bA] _ (⟨bk, 0, .vec 45 25 1, kA.cells⟩ :: M2) := hA2.find (find_behind (L := [_]) (M := M2) ⟨dM, trivial⟩)
    have hK3 : KsR [kA] (.slice (some ⟨bk, 0, none⟩) 1 1) (⟨bk, 0, .vec 45 25 1, kA.cells⟩ :: M2) := LiR.singl (kd := .vec 45 25 1) (by simp [findE]) kA.len
    obtain ⟨f9, f7, f6, f4, f1, -⟩ := id hL2
    refine useL [_, _, _, _, _, _] (M := ⟨bk, 0, .vec 45 25 1, kA.cells⟩ :: M2) (vopen_ok hA3 ⟨_, _, rfl, LiR.nil _ _, hK3⟩ (fit1 (by simp) (by simp) (by simp))) (VeR.rd _) (by simpa [marksOf] using hg2.marks) ⟨⟨d2, d1, hb11.2.2.2.2.2.2.2.2.2.2⟩, ⟨d4, d3, f9⟩, ⟨d6, d5, f7⟩, ⟨d8, d7, f6⟩, ⟨d10, d9, f4⟩, ⟨d12, d11, f1⟩, trivial⟩ fun w M3 hg3 hL3 hq => ?_
    have hA3 := hA3.ext hg3.ext
    rw [openW] at hq
    obtain ⟨uu, rfl, hvW⟩ := hq
    have hvW : ViR vW uu M3 := hvW
    obtain ⟨s0, m0, s1, m1, s2, m2, s3, m3, rfl⟩ := hvW.e4
    simp only [push_cast, seval, reduceCtorEq, hb11, hb9, hb7, hb6, hb4]
    intro b13 hb13
    simp only [push_cast, seval, reduceCtorEq, hb13, hb11, hb9, hb7, hb6, hb4, k1, k8]
    have fitW : vW.Fit := fit1 (by simp) (by simp) (by simp)
    have fitX : vX.Fit := fit1 (by simp) (by simp) (by simp)
    refine useL [_, _, _, _, _, _, _] (M := M3) (by have := vsetslot_R (a := at1) (q := w1) (w := w8) hvW fitW; rw [show putV vW (Ce.sv ⟨at1, true, w1⟩ w8) = _ from putW1] at this; exact this) (VeR.rd _) hg3.marks ⟨hb13.2.2.2.2.2.2.2.2.2.2.2.2, hL3⟩ fun w M4 hg4 hL4 hq => ?_
    obtain ⟨uu, rfl, hvX⟩ := hq
    have hvX : ViR vX uu M4 := hvX
    obtain ⟨t0, n0, t1, n1, t2, n2, t3, n3, rfl⟩ := hvX.e4
    simp only [push_cast, seval, reduceCtorEq, hb13, hb11, hb9, hb7, hb6, hb4, k1, k8]
    refine ⟨subH_gr (N := []) trivial hg4, ?_⟩
    have z13 : fresh b13 M4 := hL4.1
    refine takeR (v := .tuple #[w8.v, .int .i64 0]) (by have := vslot_R (a := at1) (q := w1) hvX fitX; rw [slotX] at this; exact this) (L := ⟨b13, 0, .cel 33, [.slice t0 vX.base.length n0, .slice t1 vX.reads.length n1, .slice t2 vX.writes.length n2, .slice t3 vX.cells.length n3]⟩ :: _) ⟨z13, hL4.2⟩ ?_
    simp only [push_cast, seval, reduceCtorEq, hb13, hb11, hb9, hb7, hb6, hb4, k1, k8]
    intro b16 hb16
    simp only [push_cast, seval, reduceCtorEq, hb16, hb13, hb11, hb9, hb7, hb6, hb4, k1, k8]
    refine useL (_ :: ⟨b13, 0, .cel 33, [.slice t0 vX.base.length n0, .slice t1 vX.reads.length n1, .slice t2 vX.writes.length n2, .slice t3 vX.cells.length n3]⟩ :: _) (M := M4) (by have := vmerge_R (hA3.ext hg4.ext) hvX fitX (by simp); rw [mergeA] at this; exact this) (UndR.rd _) hg4.marks ⟨hb16.2.2.2.2.2.2.2.2.2.2.2.2.2.2, z13, hL4.2⟩ fun w M5 hg5 hL5 hq => ?_
    obtain ⟨uu, rfl, hB⟩ := hq
    have hB : StR [bB] uu M5 := hB
    simp only [push_cast, seval, reduceCtorEq, hb16, hb13, hb11, hb9, hb7, hb6, hb4, k1, k8]
    intro bq hbq
    obtain ⟨c1, c2, c3, c4, c5, c6, c7, c8, c9, c10, c11, c12, c13, c14, c15, c16, cM⟩ := id hbq
    refine CallsV.pre (H' := [_, _, _, _, _, _, _, _] ++ (⟨bq, 0, .vec 45 25 2, kA.cells ++ kA.cells⟩ :: M5)) (List.perm_middle (l₁ := [_, _, _, _, _, _, _, _]) (l₂ := M5)).symm (by simp [marksOf]) ?_
    have hB6 : StR [bB] _ (⟨bq, 0, .vec 45 25 2, kA.cells ++ kA.cells⟩ :: M5) := hB.find (find_behind (L := [_]) (M := M5) ⟨cM, trivial⟩)
    have hK6 : KsR [kA, kA] (.slice (some ⟨bq, 0, none⟩) 2 2) (⟨bq, 0, .vec 45 25 2, kA.cells ++ kA.cells⟩ :: M5) := LiR.two25 (kd := .vec 45 25 2) (by simp [findE])
    obtain ⟨f16, f13, f11, f9, f7, f6, f4, f1, -⟩ := id hL5
    have f16 : fresh b16 M5 := f16
    have f13 : fresh b13 M5 := f13
    refine useL (_ :: ⟨b13, 0, .cel 33, [.slice t0 vX.base.length n0, .slice t1 vX.reads.length n1, .slice t2 vX.writes.length n2, .slice t3 vX.cells.length n3]⟩ :: _) (M := ⟨bq, 0, .vec 45 25 2, kA.cells ++ kA.cells⟩ :: M5) (by have := vopen_ok (StR.nil (⟨bq, 0, .vec 45 25 2, kA.cells ++ kA.cells⟩ :: M5) 0) ⟨_, _, rfl, hK6, LiR.nil _ 0⟩ (⟨by simp, fun y hy => by (cases hy), by simp, by simp, by simp⟩ : Vi.Fit ⟨[], [kA, kA], [], []⟩); rw [openB] at this; exact this) (VeR.rd _) (by simpa [marksOf] using hg5.marks) ⟨⟨c2, c1, f16⟩, ⟨c4, c3, f13⟩, ⟨c6, c5, f11⟩, ⟨c8, c7, f9⟩, ⟨c10, c9, f7⟩, ⟨c12, c11, f6⟩, ⟨c14, c13, f4⟩, ⟨c16, c15, f1⟩, trivial⟩ fun w M7 hg7 hL7 hq => ?_
    have hB7 := hB6.ext hg7.ext
    obtain ⟨uu, rfl, hvB⟩ := hq
    have hvB : ViR ⟨[], [], [], []⟩ uu M7 := hvB
    obtain ⟨g0, h0, g1, h1, g2, h2, g3, h3, rfl⟩ := hvB.e4
    obtain ⟨LB, pB, kB, hLB, rfl, hsB, hcB⟩ := hB7.open
    obtain ⟨sv, rfl⟩ : ∃ sv, LB = [(bB, sv)] := by
      rcases LB with _ | ⟨x, _ | ⟨y, r⟩⟩
      · simp at hLB
      · simp at hLB; exact ⟨x.2, by rw [← hLB]⟩
      · simp at hLB
    rcases hcB with hcB | ⟨eb, ef, ed, ekd, ecs, rfl, hef, hat⟩
    · cases hcB
    have hsv : LiR Sl.cells 8 M7 bB.slots sv := hsB _ (List.mem_singleton.2 rfl)
    obtain ⟨ha1, -, -, hone⟩ := hat 0 _ rfl
    obtain ⟨ha2, ha3⟩ := ha1 26 1 (by decide)
    rw [Nat.zero_mul, Nat.add_zero] at ha2 ha3
    have ha3 : List.take 1 (List.drop (ed + 26) ecs) = [sv] := ha3
    obtain ⟨pS, kS, rfl, hcS⟩ := LiR.openC Sl.len (by decide) hsv
    rcases hcS with hcS | ⟨sb, sf, sd, skd, scs, rfl, hsf, hst⟩
    · cases hcS
    obtain ⟨hs1, hs2⟩ := hst 0 _ rfl
    rw [Nat.zero_mul, Nat.add_zero] at hs1 hs2
    simp only [push_cast, seval, reduceCtorEq, hb16, hb13, hb11, hb9, hb7, hb6, hb4, k1, k8]
    intro b20 hb20
    have z0 : (0 : Int) < 1 := by decide
    have eN := (fresh_findS hb20.2.2.2.2.2.2.2.2.2.2.2.2.2.2.2.2 hef)
    have sN := (fresh_findS hb20.2.2.2.2.2.2.2.2.2.2.2.2.2.2.2.2 hsf)
    obtain ⟨v16, v13, v11, v9, v7, v6, v4, v1, -⟩ := id hL7
    have e16 := (fresh_findS (show fresh b16 M7 from v16) hef).2
    have s16 := (fresh_findS (show fresh b16 M7 from v16) hsf).2
    have e13 := (fresh_findS (show fresh b13 M7 from v13) hef).2
    have s13 := (fresh_findS (show fresh b13 M7 from v13) hsf).2
    have e11 := (fresh_findS (show fresh b11 M7 from v11) hef).2
    have s11 := (fresh_findS (show fresh b11 M7 from v11) hsf).2
    have e9 := (fresh_findS (show fresh b9 M7 from v9) hef).2
    have s9 := (fresh_findS (show fresh b9 M7 from v9) hsf).2
    have e7 := (fresh_findS (show fresh b7 M7 from v7) hef).2
    have s7 := (fresh_findS (show fresh b7 M7 from v7) hsf).2
    have e6 := (fresh_findS (show fresh b6 M7 from v6) hef).2
    have s6 := (fresh_findS (show fresh b6 M7 from v6) hsf).2
    have e4 := (fresh_findS (show fresh b4 M7 from v4) hef).2
    have s4 := (fresh_findS (show fresh b4 M7 from v4) hsf).2
    have e1 := (fresh_findS (show fresh b1 M7 from v1) hef).2
    have s1 := (fresh_findS (show fresh b1 M7 from v1) hsf).2
    have hs3 : List.take 4 (List.drop (sd + 4) scs) = w8.cells := by
      have h : List.take 4 (List.drop 4 (List.take 8 (List.drop sd scs))) = List.take 4 (List.drop 4 (Sl.cells ⟨w1, w8⟩)) := congrArg (fun l => List.take 4 (List.drop 4 l)) hs2
      rw [List.drop_take, List.take_take, List.drop_drop] at h
      exact h
    have nB : bB.slots.length = 1 := rfl
    have q7 : w7 = W.ofInt 7 := rfl
    have q8 : w8 = W.ofInt 8 := rfl
    refine regO gB1_ok ?_
    simp only [push_cast, seval, reduceCtorEq, hb20, hb16, hb13, hb11, hb9, hb7, hb6, hb4, hef, hsf, ha2, ha3, hs1, hs2, hs3, eN.2, sN.2, z0, e16, e13, e11, e9, e7, e6, e4, e1, s16, s13, s11, s9, s7, s6, s4, s1, nB, k7, k8, ← q7, ← q8, List.append_eq, List.cons_append, List.nil_append]
    refine WpV.slots [(2, .func (.func 41) #[] #[]), (6, .int .i64 0), (7, .pointer (some ⟨b7, 0, none⟩)), (8, .int .i64 0), (10, .int .i64 30), (12, .int .i64 30), (13, .pointer (some ⟨b13, 0, none⟩)), (14, .int .i64 0), (15, .int .i64 0), (16, .pointer (some ⟨b16, 0, none⟩)), (17, .int .i64 0), (18, .slice (some ⟨eb, ef + ed, none⟩) 1 kB), (19, .int .i64 0), (20, .pointer (some ⟨b20, 0, none⟩)), (21, .int .i64 1)] (by simp only [push_cast, seval, reduceCtorEq]) ?_
    refine drawO gB1_ok Tryz.mix (Tryz.pl10 16) (by kernel_rfl) ?_
    simp only [push_cast, seval, reduceCtorEq, hb20, hb16, hb13, hb11, hb9, hb7, hb6, hb4, hef, hsf, ha2, ha3, hs1, hs2, hs3, eN.2, sN.2, z0, e16, e13, e11, e9, e7, e6, e4, e1, s16, s13, s11, s9, s7, s6, s4, s1, nB, k7, k8, ← q7, ← q8, List.append_eq, List.cons_append, List.nil_append]
    have hvX7 := ((hvX.ext hg5.ext).find (find_behind (L := [⟨bq, 0, .vec 45 25 2, kA.cells ++ kA.cells⟩]) (M := M5) ⟨cM, trivial⟩)).ext hg7.ext
    refine takeR [_, _, _, _, _, _, _, _, _] (M := M7) (v := .bool true) (by have := vright_R hvX7 fitX; rw [pB_iff.2 riX] at this; exact this) ⟨hb20.2.2.2.2.2.2.2.2.2.2.2.2.2.2.2.2, v16, v13, v11, v9, v7, v6, v4, v1, trivial⟩ ?_
    simp only [push_cast, seval, reduceCtorEq, hb20, hb16, hb13, hb11, hb9, hb7, hb6, hb4, hef, hsf, ha2, ha3, hs1, hs2, hs3, eN.2, sN.2, z0, e16, e13, e11, e9, e7, e6, e4, e1, s16, s13, s11, s9, s7, s6, s4, s1, nB, k7, k8, ← q7, ← q8, List.append_eq, List.cons_append, List.nil_append]
    intro bz hbz
    simp only [push_cast, seval, reduceCtorEq, hbz, hb20, hb16, hb13, hb11, hb9, hb7, hb6, hb4, hef, hsf, ha2, ha3, hs1, hs2, hs3, eN.2, sN.2, z0, e16, e13, e11, e9, e7, e6, e4, e1, s16, s13, s11, s9, s7, s6, s4, s1, nB, k7, k8, ← q7, ← q8, List.append_eq, List.cons_append, List.nil_append]
    try refine ⟨subH_self _, ?_⟩
    refine takeR [] (v := .bool false) ?_ trivial ?_
    · intro M8 hr8 he8
      have h := vright_R (x := ⟨[], [], [], [Ce.z Ky.zero]⟩) (v := .agg #[.slice none 0 0, .slice none 0 0, .slice none 0 0, .slice (some ⟨bz, 0, none⟩) 1 1]) (M := M8) (ViR.rd _ _ _ _ he8.symm ⟨_, _, _, _, rfl, StR.nil _ 0, LiR.nil _ 0, LiR.nil _ 0, LiR.singl (kd := .vec 74 35 1) (if_pos rfl) (Ce.z Ky.zero).len⟩) ⟨by simp, fun y hy => by (cases hy), by simp, by simp, by simp⟩ M8 hr8 rfl
      rw [pB_f riBad] at h
      exact h
    simp only [push_cast, seval, reduceCtorEq, hbz, hb20, hb16, hb13, hb11, hb9, hb7, hb6, hb4, hef, hsf, ha2, ha3, hs1, hs2, hs3, eN.2, sN.2, z0, e16, e13, e11, e9, e7, e6, e4, e1, s16, s13, s11, s9, s7, s6, s4, s1, nB, k7, k8, ← q7, ← q8, List.append_eq, List.cons_append, List.nil_append]
end Go.Proofs.YtincedmdkdjakaaGreat
set_option linter.unusedSimpArgs false
set_option linter.unusedVariables false
namespace Go.Ev
def awk11G : List Value → Option Value
  | [] => some (.bool true)
  | _ => none
end Go.Ev
namespace Go.Proofs.YtincedmdkdjakaaGreat
open Go Go.Ev Go.Proofs
set_option maxRecDepth 100000
set_option maxHeartbeats 4000000
theorem awk11G_ok (args : List Value) (v : Value) (h : awk11G args = some v) : CallsV Tryz.prog 10 args [] (Ret0 v) := by
  unfold awk11G at h
  split at h
  · cases h; exact awk11_ok
  · cases h
noncomputable def gB2 : Gam := (addG 10 awk11G gB1)
attribute [push_cast] gB2
theorem gB2_ok : GamOk Tryz.prog gB2 := (addG_ok awk11G_ok gB1_ok)
attribute [push_cast] awk11G
end Go.Proofs.YtincedmdkdjakaaGreat
set_option linter.unusedSimpArgs false
set_option linter.unusedVariables false
namespace Go.Proofs.YtincedmdkdjakaaGreat
open Go Go.Ev Go.Proofs
set_option maxRecDepth 100000
set_option maxHeartbeats 4000000
end Go.Proofs.YtincedmdkdjakaaGreat
