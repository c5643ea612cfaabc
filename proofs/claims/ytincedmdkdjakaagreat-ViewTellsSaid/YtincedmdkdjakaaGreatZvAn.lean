/- Texts of this claim, merged by program: Uh Ui Uj Uk Ul. -/
import Derived.Test.YtincedmdkdjakaaGreatZvAm
set_option linter.unusedSimpArgs false
set_option linter.unusedVariables false
namespace Go.Ev
def SeR (R W' : List Ky) : Value → Hp → Prop := fun v H => ∃ vr vw, v = .agg #[vr, vw] ∧ KsR R vr H ∧ KsR W' vw H
theorem SeR.rd (R W' : List Ky) : RdOnly (SeR R W') := by
  rintro v A B h ⟨vr, vw, rfl, h1, h2⟩
  exact ⟨vr, vw, rfl, h1.congr h, h2.congr h⟩
noncomputable def mayB (R W' : List Ky) (k : Ky) (w : Bool) : Bool := decide (k ∈ W') || (!w && decide (k ∈ R))
end Go.Ev
namespace Go.Proofs.YtincedmdkdjakaaGreat
open Go Go.Ev Go.Proofs
set_option maxRecDepth 100000
set_option maxHeartbeats 4000000
theorem rin_ok {M : Hp} {l : List Ky} {v : Value} {k : Ky} (hv : LiR Ky.cells 25 M l v) (hm : marksOf M = []) (hn : l.length ≤ 2199023255551) : CallsV Tryz.prog 46 [v, k.v] M (Ret0 (.bool (decide (k ∈ l)))) := by
  obtain ⟨p, c, rfl, hla⟩ := LiR.openY hv
  refine callsO gU1_ok Tryz.mix Tryz.pl46 Tryz.func46 rfl Tryz.ntmps46 Tryz.results46 rfl (by first | rfl | assumption) (Nat.le_of_ble_eq_true rfl) (by kernel_rfl) ?_
  simp only [push_cast, seval, reduceCtorEq]
  intro b3 hb3
  refine loopO gU1_ok (pl := Tryz.pl46) Tryz.mix (X := Nat)
    (fun i => ([(0, .slice p l.length c), (3, .pointer (some ⟨b3, 0, none⟩)), (5, .int .i64 i)], ⟨b3, 0, .cel 45, k.cells⟩ :: M))
    (fun i => i ≤ l.length ∧ ∀ j y, j < i → l[j]? = some y → ¬ y = k) (fun i => l.length - i) 0 ?_ ?_ (by kernel_rfl) ?_
  · exact ⟨Nat.zero_le _, fun i x h => by omega⟩
  · simp only [push_cast, seval, reduceCtorEq]
  · rintro i ⟨hi, ho⟩
    dsimp only at hi ho ⊢
    rcases Nat.lt_or_ge i l.length with hlt | hge
    · obtain ⟨x, hx⟩ : ∃ x, l[i]? = some x := ⟨l[i], List.getElem?_eq_getElem hlt⟩
      rcases hla with rfl | ⟨b, f', d, kd, cs, rfl, hfe, hat⟩
      · simp at hlt
      obtain ⟨a1, a2⟩ := hat i x hx
      have i1 : (i : Int) < (l.length : Int) := by omega
      have n3 := (fresh_findS hb3 hfe).2
      by_cases hxk : x = k
      · have e : decide (k ∈ l) = true := decide_eq_true (hxk ▸ List.mem_of_getElem? hx)
        rw [e]
        simp only [push_cast, seval, reduceCtorEq, i1, hlt, hfe, n3, a1, a2, hxk, decide_true]
      · simp only [push_cast, seval, reduceCtorEq, i1, hlt, hfe, n3, a1, a2, hxk, decide_false, wrap_i64' (show -9223372036854775808 ≤ (i : Int) + 1 ∧ (i : Int) + 1 ≤ 9223372036854775807 by omega)]
        refine ⟨i + 1, ⟨hlt, fun j y hj hy => ?_⟩, by omega, rfl⟩
        rcases Nat.lt_or_ge j i with h5 | h5
        · exact ho j y h5 hy
        · obtain rfl : j = i := by omega
          rw [hx] at hy; cases hy
          exact hxk
    · obtain rfl : i = l.length := by omega
      have e : decide (k ∈ l) = false := decide_eq_false fun h => by
        obtain ⟨j, hj⟩ := List.getElem?_of_mem h
        exact ho j k (List.getElem?_eq_some_iff.1 hj).1 hj rfl
      rw [e]
      simp only [push_cast, seval, reduceCtorEq, Nat.lt_irrefl, Int.lt_irrefl]
theorem rin_R {M : Hp} {l : List Ky} {v : Value} {k : Ky} (hv : LiR Ky.cells 25 M l v) (hn : l.length ≤ 2199023255551) : ∀ M0, roM M0 → cellsAt M0 = cellsAt M → CallsV Tryz.prog 46 [v, k.v] M0 (Ret0 (.bool (decide (k ∈ l)))) :=
  fun _ hr he => rin_ok (hv.congr he.symm) hr.marks hn
theorem rmay_ok {M : Hp} {R W' : List Ky} {v : Value} {k : Ky} {w : Bool} (hv : SeR R W' v M) (hm : marksOf M = []) (hn : R.length ≤ 2199023255551) (hn2 : W'.length ≤ 2199023255551) : CallsV Tryz.prog 13 [v, k.v, .bool w] M (Ret0 (.bool (mayB R W' k w))) := by
  obtain ⟨vr, vw, rfl, h1, h2⟩ := hv
  have h1' := h1
  have h2' := h2
  obtain ⟨p1, c1, rfl⟩ := h1'.slice
  obtain ⟨p2, c2, rfl⟩ := h2'.slice
  unfold mayB
  refine callsO gU1_ok Tryz.mix (fun i => if i = 1 then [(0, 9)] else Tryz.pl13 i) Tryz.func13 rfl Tryz.ntmps13 Tryz.results13 rfl (by first | rfl | assumption) (Nat.le_of_ble_eq_true rfl) (by kernel_rfl) ?_
  simp only [push_cast, seval, reduceCtorEq]
  intro b2 hb2 b3 hb3
  have f2 : freshN [⟨b3, 0, .cel 45, k.cells⟩, ⟨b2, 0, .cel 30, [.slice p1 R.length c1, .slice p2 W'.length c2]⟩] M := ⟨hb3.2.2, hb2, trivial⟩
  refine regO gU1_ok ?_
  simp only [push_cast, seval, reduceCtorEq, hb3]
  refine useP [_, _] (rin_R h2 hn2) f2 ?_
  by_cases c : k ∈ W'
  · simp only [push_cast, seval, reduceCtorEq, hb3, decide_eq_true c, Bool.true_or]
  cases w
  · simp only [push_cast, seval, reduceCtorEq, hb3, decide_eq_false c, Bool.false_or]
    refine useP [_, _] (rin_R h1 hn) f2 ?_
    simp only [push_cast, seval, reduceCtorEq, hb3, decide_eq_false c, Bool.false_or, Bool.not_false, Bool.true_and]
  · simp only [push_cast, seval, reduceCtorEq, hb3, decide_eq_false c, Bool.false_or, Bool.not_true, Bool.false_and]
theorem rmay_R {M : Hp} {R W' : List Ky} {v : Value} {k : Ky} {w : Bool} (hv : SeR R W' v M) (hn : R.length ≤ 2199023255551) (hn2 : W'.length ≤ 2199023255551) : ∀ M0, roM M0 → cellsAt M0 = cellsAt M → CallsV Tryz.prog 13 [v, k.v, .bool w] M0 (Ret0 (.bool (mayB R W' k w))) :=
  fun _ hr he => rmay_ok (SeR.rd _ _ _ _ _ he.symm hv) hr.marks hn hn2
def plRgtY : Plans := fun i => if i = 4 then [] else Tryz.pl108 i
attribute [push_cast] plRgtY
theorem rright_ok {M : Hp} {l : List Ky} {v : Value} (hv : LiR Ky.cells 25 M l v) (hm : marksOf M = []) (hn : l.length ≤ 2199023255551) : CallsV Tryz.prog 108 [v] M (Ret0 (.bool (pB (rightKs l)))) := by
  obtain ⟨p, c, rfl, hla⟩ := LiR.openY hv
  refine callsO gU1_ok Tryz.mix plRgtY Tryz.func108 rfl Tryz.ntmps108 Tryz.results108 rfl (by first | rfl | assumption) (Nat.le_of_ble_eq_true rfl) (by kernel_rfl) ?_
  simp only [push_cast, seval, reduceCtorEq]
  refine loopO gU1_ok (pl := plRgtY) Tryz.mix (X := Nat)
    (fun i => ([(0, .slice p l.length c), (3, .int .i64 i)], M))
    (fun i => i ≤ l.length ∧ ∀ j, j < i → okK l j) (fun i => l.length - i) 0 ?_ ?_ (by kernel_rfl) ?_
  · exact ⟨Nat.zero_le _, fun i h => by omega⟩
  · simp only [push_cast, seval, reduceCtorEq, hm]
  · rintro i ⟨hi, ho⟩
    dsimp only at hi ho ⊢
    rcases Nat.lt_or_ge i l.length with hlt | hge
    · obtain ⟨x, hx⟩ : ∃ x, l[i]? = some x := ⟨l[i], List.getElem?_eq_getElem hlt⟩
      rcases hla with rfl | ⟨b, f', d, kd, cs, rfl, hfe, hat⟩
      · simp at hlt
      obtain ⟨a1, a2⟩ := hat i x hx
      have i1 : (i : Int) < (l.length : Int) := by omega
      have step : okK l i → ∀ j, j < i + 1 → okK l j := fun h j hj => by
        rcases Nat.lt_or_ge j i with h5 | h5
        · exact ho j h5
        · obtain rfl : j = i := by omega
          exact h
      simp only [push_cast, seval, reduceCtorEq, i1, hlt]
      refine drawO gU1_ok Tryz.mix (Tryz.pl108 4) (by kernel_rfl) ?_
      obtain ⟨my, hmy⟩ : ∃ q, x.may = q := ⟨_, rfl⟩
      cases my
      · have e : pB (rightKs l) = false := pB_f (okK_bad (i := i) fun h => by
          have := (Ky.may_iff x).2 (h x hx).1
          rw [hmy] at this; cases this)
        rw [e]
        simp only [push_cast, seval, reduceCtorEq, i1, hlt, hfe, a1, a2, hmy]
      have hmx : mayKy x := (Ky.may_iff x).1 hmy
      rcases Nat.eq_zero_or_pos i with rfl | hpos
      · have i1' : (0 : Int) < (l.length : Int) := by omega
        have z1 := a1
        have z2 := a2
        rw [Nat.zero_mul, Nat.add_zero] at z1 z2
        simp only [push_cast, seval, reduceCtorEq, i1', z1, z2, i1, hlt, hfe, a1, a2, hmy, Int.lt_irrefl, Nat.lt_irrefl, wrap_i64' (show -9223372036854775808 ≤ (0 : Int) + 1 ∧ (0 : Int) + 1 ≤ 9223372036854775807 by omega)]
        exact ⟨1, ⟨hlt, step fun y hy => by rw [hx] at hy; cases hy; exact ⟨hmx, fun _ h => absurd h (Nat.lt_irrefl _)⟩⟩, by omega, rfl⟩
      · obtain ⟨k, rfl⟩ : ∃ k, i = k + 1 := ⟨i - 1, by omega⟩
        obtain ⟨y, hy⟩ : ∃ y, l[k]? = some y := ⟨l[k]'(by omega), List.getElem?_eq_getElem (by omega)⟩
        obtain ⟨y1, y2⟩ := hat k y hy
        have p1 : (0 : Int) < (k : Int) + 1 := by omega
        have p2 : (k : Int) + 1 - 1 = (k : Int) := by omega
        have p3 : k < l.length := by omega
        have p4 : (0 : Int) ≤ (k : Int) + 1 := by omega
        have p5 : ((k : Int) + 1).toNat = k + 1 := by omega
        have p6 : (k : Int) + 1 < (l.length : Int) := by omega
        by_cases hc : y.lt x
        · have ec : ¬ (0 : Int) ≤ ordY y x := by have := ordY_neg.2 hc; omega
          simp only [push_cast, seval, reduceCtorEq, i1, hlt, hfe, a1, a2, hmy, p1, p2, p3, p4, p5, p6, y1, y2, ec, wrap_i64' (show -9223372036854775808 ≤ (k : Int) ∧ (k : Int) ≤ 9223372036854775807 by omega), wrap_i64' (show -9223372036854775808 ≤ (k : Int) + 1 + 1 ∧ (k : Int) + 1 + 1 ≤ 9223372036854775807 by omega)]
          exact ⟨k + 2, ⟨hlt, step fun z hz => by rw [hx] at hz; cases hz; exact ⟨hmx, fun u _ hu => by rw [Nat.add_sub_cancel, hy] at hu; cases hu; exact hc⟩⟩, by omega, rfl⟩
        · have ec : (0 : Int) ≤ ordY y x := by have : ¬ ordY y x < 0 := fun h => hc (ordY_neg.1 h); omega
          have e : pB (rightKs l) = false := pB_f (okK_bad (i := k + 1) fun h => hc ((h x hx).2 y (Nat.succ_pos _) (by rw [Nat.add_sub_cancel]; exact hy)))
          rw [e]
          simp only [push_cast, seval, reduceCtorEq, i1, hlt, hfe, a1, a2, hmy, p1, p2, p3, p4, p5, p6, y1, y2, ec, wrap_i64' (show -9223372036854775808 ≤ (k : Int) ∧ (k : Int) ≤ 9223372036854775807 by omega)]
    · obtain rfl : i = l.length := by omega
      have e : pB (rightKs l) = decide (l.length ≤ 200) := by
        rw [← pB_dec]
        unfold pB
        congr 1
        exact propext (okK_end ho)
      have e2 : decide ((l.length : Int) ≤ 200) = decide (l.length ≤ 200) := by rw [decide_eq_decide]; omega
      rw [e]
      simp only [push_cast, seval, reduceCtorEq, Nat.lt_irrefl, Int.lt_irrefl, e2]
theorem rright_R {M : Hp} {l : List Ky} {v : Value} (hv : LiR Ky.cells 25 M l v) (hn : l.length ≤ 2199023255551) : ∀ M0, roM M0 → cellsAt M0 = cellsAt M → CallsV Tryz.prog 108 [v] M0 (Ret0 (.bool (pB (rightKs l)))) :=
  fun _ hr he => rright_ok (hv.congr he.symm) hr.marks hn
theorem rRight_ok {M : Hp} {R W' : List Ky} {v : Value} (hv : SeR R W' v M) (hm : marksOf M = []) (hn : R.length ≤ 2199023255551) (hn2 : W'.length ≤ 2199023255551) : CallsV Tryz.prog 71 [v] M (Ret0 (.bool (pB (rightKs R) && pB (rightKs W')))) := by
  obtain ⟨vr, vw, rfl, h1, h2⟩ := hv
  have h1' := h1
  have h2' := h2
  obtain ⟨p1, c1, rfl⟩ := h1'.slice
  obtain ⟨p2, c2, rfl⟩ := h2'.slice
  refine callsO gU1_ok Tryz.mix (fun i => if i = 1 then [(0, 9)] else Tryz.pl71 i) Tryz.func71 rfl Tryz.ntmps71 Tryz.results71 rfl (by first | rfl | assumption) (Nat.le_of_ble_eq_true rfl) (by kernel_rfl) ?_
  simp only [push_cast, seval, reduceCtorEq]
  intro b2 hb2
  refine regO gU1_ok ?_
  simp only [push_cast, seval, reduceCtorEq]
  refine useP [_] (rright_R h1 hn) ⟨hb2, trivial⟩ ?_
  cases hc : pB (rightKs R)
  · simp only [push_cast, seval, reduceCtorEq, Bool.false_and]
  · simp only [push_cast, seval, reduceCtorEq, Bool.true_and]
    refine useP [_] (rright_R h2 hn2) ⟨hb2, trivial⟩ ?_
    simp only [push_cast, seval, reduceCtorEq]
theorem rRight_R {M : Hp} {R W' : List Ky} {v : Value} (hv : SeR R W' v M) (hn : R.length ≤ 2199023255551) (hn2 : W'.length ≤ 2199023255551) : ∀ M0, roM M0 → cellsAt M0 = cellsAt M → CallsV Tryz.prog 71 [v] M0 (Ret0 (.bool (pB (rightKs R) && pB (rightKs W')))) :=
  fun _ hr he => rRight_ok (SeR.rd _ _ _ _ _ he.symm hv) hr.marks hn hn2
theorem rsame_ok {M : Hp} {l m : List Ky} {v u : Value} (hv : LiR Ky.cells 25 M l v) (hu : LiR Ky.cells 25 M m u) (hm : marksOf M = []) (hn : l.length ≤ 2199023255551) : CallsV Tryz.prog 109 [v, u] M (Ret0 (.bool (decide (l = m)))) := by
  obtain ⟨p, c, rfl, hla⟩ := LiR.openY hv
  obtain ⟨q, n, rfl, hra⟩ := LiR.openY hu
  refine callsO gU1_ok Tryz.mix Tryz.pl109 Tryz.func109 rfl Tryz.ntmps109 Tryz.results109 rfl (by first | rfl | assumption) (Nat.le_of_ble_eq_true rfl) (by kernel_rfl) ?_
  by_cases hl : l.length = m.length
  case neg =>
    have e : decide (l = m) = false := decide_eq_false fun h => hl (by rw [h])
    have e1 : (((l.length : Nat) : Int) != ((m.length : Nat) : Int)) = true := by rw [bne_iff_ne]; omega
    simp only [push_cast, seval, reduceCtorEq, e, e1]
  have e1 : (((l.length : Nat) : Int) != ((m.length : Nat) : Int)) = false := by rw [hl]; exact bne_self_eq_false _
  simp only [push_cast, seval, reduceCtorEq, e1]
  refine loopO gU1_ok (pl := Tryz.pl109) Tryz.mix (X := Nat)
    (fun i => ([(0, .slice p l.length c), (1, .slice q m.length n), (5, .int .i64 i)], M))
    (fun i => i ≤ l.length ∧ l.take i = m.take i) (fun i => l.length - i) 0 ?_ ?_ (by kernel_rfl) ?_
  · exact ⟨Nat.zero_le _, rfl⟩
  · simp only [push_cast, seval, reduceCtorEq]
  · rintro i ⟨hi, ht⟩
    dsimp only at hi ht ⊢
    rcases Nat.lt_or_ge i l.length with hlt | hge
    · obtain ⟨x, hx⟩ : ∃ x, l[i]? = some x := ⟨l[i], List.getElem?_eq_getElem hlt⟩
      obtain ⟨y, hy⟩ : ∃ y, m[i]? = some y := ⟨m[i]'(by omega), List.getElem?_eq_getElem (by omega)⟩
      rcases hla with rfl | ⟨b, f, d, kd, cs, rfl, he, hat⟩
      · simp at hx
      rcases hra with rfl | ⟨b', f', d', kd', cs', rfl, he', hat'⟩
      · simp at hy
      obtain ⟨a1, a2⟩ := hat i x hx
      obtain ⟨b1, b2⟩ := hat' i y hy
      have i1 : (i : Int) < (l.length : Int) := by omega
      have i2 : i < m.length := by omega
      by_cases hxy : x = y
      · simp only [push_cast, seval, reduceCtorEq, i1, hlt, i2, he, he', a1, a2, b1, b2, decide_eq_true hxy, Bool.not_true, wrap_i64' (show -9223372036854775808 ≤ (i : Int) + 1 ∧ (i : Int) + 1 ≤ 9223372036854775807 by omega)]
        exact ⟨i + 1, ⟨hlt, by rw [List.take_add_one, List.take_add_one, hx, hy, ht, hxy]⟩, by omega, rfl⟩
      · have e : decide (l = m) = false := decide_eq_false fun h => hxy (by rw [h, hy] at hx; cases hx; rfl)
        rw [e]
        simp only [push_cast, seval, reduceCtorEq, i1, hlt, i2, he, he', a1, a2, b1, b2, decide_eq_false hxy, Bool.not_false]
    · obtain rfl : i = l.length := by omega
      rw [List.take_length, hl, List.take_length] at ht
      have e : decide (l = m) = true := decide_eq_true ht
      rw [e]
      simp only [push_cast, seval, reduceCtorEq, Nat.lt_irrefl, Int.lt_irrefl]
theorem rsame_R {M : Hp} {l m : List Ky} {v u : Value} (hv : LiR Ky.cells 25 M l v) (hu : LiR Ky.cells 25 M m u) (hn : l.length ≤ 2199023255551) : ∀ M0, roM M0 → cellsAt M0 = cellsAt M → CallsV Tryz.prog 109 [v, u] M0 (Ret0 (.bool (decide (l = m)))) :=
  fun _ hr he => rsame_ok (hv.congr he.symm) (hu.congr he.symm) hr.marks hn
theorem rSame_ok {M : Hp} {R W' R2 W2 : List Ky} {v u : Value} (hv : SeR R W' v M) (hu : SeR R2 W2 u M) (hm : marksOf M = []) (hn : R.length ≤ 2199023255551) (hn2 : W'.length ≤ 2199023255551) : CallsV Tryz.prog 72 [v, u] M (Ret0 (.bool (decide (R = R2) && decide (W' = W2)))) := by
  obtain ⟨vr, vw, rfl, h1, h2⟩ := hv
  obtain ⟨ur, uw, rfl, g1, g2⟩ := hu
  have h1' := h1
  have h2' := h2
  obtain ⟨p1, c1, rfl⟩ := h1'.slice
  obtain ⟨p2, c2, rfl⟩ := h2'.slice
  have g1' := g1
  have g2' := g2
  obtain ⟨q1, d1, rfl⟩ := g1'.slice
  obtain ⟨q2, d2, rfl⟩ := g2'.slice
  refine callsO gU1_ok Tryz.mix (fun i => if i = 1 then [(0, 9)] else Tryz.pl72 i) Tryz.func72 rfl Tryz.ntmps72 Tryz.results72 rfl (by first | rfl | assumption) (Nat.le_of_ble_eq_true rfl) (by kernel_rfl) ?_
  simp only [push_cast, seval, reduceCtorEq]
  intro b2 hb2 b3 hb3
  refine regO gU1_ok ?_
  simp only [push_cast, seval, reduceCtorEq, hb3]
  refine useP [_, _] (rsame_R h1 g1 hn) ⟨hb3.2.2, hb2, trivial⟩ ?_
  by_cases hc : R = R2
  case neg => simp only [push_cast, seval, reduceCtorEq, hb3, decide_eq_false hc, Bool.false_and]
  simp only [push_cast, seval, reduceCtorEq, hb3, decide_eq_true hc, Bool.true_and]
  refine useP [_, _] (rsame_R h2 g2 hn2) ⟨hb3.2.2, hb2, trivial⟩ ?_
  simp only [push_cast, seval, reduceCtorEq, hb3]
end Go.Proofs.YtincedmdkdjakaaGreat
set_option linter.unusedSimpArgs false
set_option linter.unusedVariables false
namespace Go.Ev
theorem Ce.take25 (c : Ce) : List.take 25 c.cells = c.key.cells := List.take_left' c.key.len
theorem Ce.dropk (c : Ce) (n : Nat) : List.drop (25 + n) c.cells = List.drop n (c.bal.cells ++ ([.int .i64 c.nonce, .string c.code] ++ c.val.cells)) := by
  rw [← List.drop_drop, show List.drop 25 c.cells = _ from List.drop_left' c.key.len]
theorem Ce.bal25 (c : Ce) : List.take 4 (List.drop 25 c.cells) = c.bal.cells := by rw [c.dropk 0]; rfl
theorem Ce.non29 (c : Ce) : List.take 1 (List.drop 29 c.cells) = [.int .i64 c.nonce] := by rw [c.dropk 4]; rfl
theorem Ce.cod30 (c : Ce) : List.take 1 (List.drop 30 c.cells) = [.string c.code] := by rw [c.dropk 5]; rfl
theorem Ce.val31 (c : Ce) : List.take 4 (List.drop 31 c.cells) = c.val.cells := by rw [c.dropk 6]; rfl
theorem Ce.pre {c : Ce} {q n : Nat} (h : q + n ≤ 25) : List.take n (List.drop q c.cells) = List.take n (List.drop q c.key.cells) := by
  unfold Ce.cells
  rw [List.drop_append_of_le_length (by rw [c.key.len]; omega), List.take_append_of_le_length (by rw [List.length_drop, c.key.len]; omega)]
theorem Ce.at0 (c : Ce) : List.take 20 c.cells = c.key.at_.cells := by
  have := Ce.pre (c := c) (q := 0) (n := 20) (by decide)
  rw [List.drop_zero, List.drop_zero, c.key.take20] at this
  exact this
theorem Ce.slot20 (c : Ce) : List.take 1 (List.drop 20 c.cells) = [.bool c.key.slot] := by rw [Ce.pre (by decide), c.key.slot1]
theorem Ce.key21 (c : Ce) : List.take 4 (List.drop 21 c.cells) = c.key.key.cells := by rw [Ce.pre (by decide), c.key.key4]
theorem Ce.take35 (c : Ce) : List.take 35 c.cells = c.cells := List.take_of_length_le (Nat.le_of_eq c.len)
theorem Ce.drop35 (c : Ce) : List.drop 35 c.cells = [] := List.drop_of_length_le (Nat.le_of_eq c.len)
theorem Ky.drop25 (k : Ky) : List.drop 25 k.cells = [] := List.drop_of_length_le (Nat.le_of_eq k.len)
theorem Ce.agg (c : Ce) : Value.agg c.cells.toArray = c.v := rfl
theorem Ce.v_cells (c : Ce) : c.v.cells = c.cells.toArray := rfl
attribute [push_cast] Ce.take25 Ce.bal25 Ce.non29 Ce.cod30 Ce.val31 Ce.at0 Ce.slot20 Ce.key21 Ce.take35 Ce.drop35 Ce.agg Ce.v_cells Ky.drop25 Ky.take20
noncomputable def mayCB (c : Ce) : Bool := pB (mayC c)
theorem mayCB_slot {c : Ce} (h : c.key.slot = true) : mayCB c = decide (c = ⟨c.key, W.zero, 0, .empty, c.val⟩) := by
  unfold mayCB mayC
  rw [if_pos h, pB_dec, decide_eq_decide]
  constructor
  · rintro ⟨h1, h2, h3⟩; exact Ce.ext rfl h1 h2 h3 rfl
  · intro h; exact ⟨congrArg Ce.bal h, congrArg Ce.nonce h, congrArg Ce.code h⟩
theorem mayCB_acc {c : Ce} (h : c.key.slot = false) : mayCB c = (decide (c.key.key = W.zero) && (decide (c.val = W.zero) && (decide (0 ≤ c.nonce) && (decide (c.nonce ≤ 9007199254740992) && decide (c.code.size ≤ 24576))))) := by
  unfold mayCB mayC
  rw [if_neg (by rw [h]; decide), pB_dec, Bool.eq_iff_iff]
  simp only [Bool.and_eq_true, decide_eq_true_eq]
end Go.Ev
namespace Go.Proofs.YtincedmdkdjakaaGreat
open Go Go.Ev Go.Proofs
set_option maxRecDepth 100000
set_option maxHeartbeats 4000000
theorem vmay_ok (c : Ce) : CallsV Tryz.prog 65 [c.v] [] (Ret0 (.bool (mayCB c))) := by
  refine callsO gU1_ok Tryz.mix (fun i => if i = 1 then [(0, 9)] else Tryz.pl65 i) Tryz.func65 rfl Tryz.ntmps65 Tryz.results65 rfl (by first | rfl | assumption) (Nat.le_of_ble_eq_true rfl) (by kernel_rfl) ?_
  simp only [push_cast, seval, reduceCtorEq]
  intro b1
  refine regO gU1_ok ?_
  cases hs : c.key.slot
  · rw [mayCB_acc hs]
    by_cases c1 : c.key.key = W.zero
    case neg => simp only [push_cast, seval, reduceCtorEq, hs, decide_eq_false c1, Bool.false_and]
    by_cases c2 : c.val = W.zero
    case neg => simp only [push_cast, seval, reduceCtorEq, hs, decide_eq_true c1, decide_eq_false c2, Bool.false_and]
    by_cases c3 : 0 ≤ c.nonce
    case neg => simp only [push_cast, seval, reduceCtorEq, hs, decide_eq_true c1, decide_eq_true c2, c3, Bool.false_and]
    by_cases c4 : c.nonce ≤ 9007199254740992
    case neg => simp only [push_cast, seval, reduceCtorEq, hs, decide_eq_true c1, decide_eq_true c2, c3, c4, Bool.false_and]
    have e : decide ((c.code.size : Int) ≤ 24576) = decide (c.code.size ≤ 24576) := by rw [decide_eq_decide]; omega
    simp only [push_cast, seval, reduceCtorEq, hs, decide_eq_true c1, decide_eq_true c2, c3, c4, e]
  · rw [mayCB_slot hs]
    have e1 : ∀ l : List Value, List.take 31 (c.key.cells ++ l) = c.key.cells ++ List.take 6 l := fun l => by
      rw [List.take_append, List.take_of_length_le (by rw [c.key.len]; decide), c.key.len]
    have e2 : ∀ l : List Value, List.drop 35 (c.key.cells ++ l) = List.drop 10 l := fun l => by
      rw [List.drop_append, List.drop_of_length_le (by rw [c.key.len]; decide), c.key.len]; rfl
    have e3 : Value.agg (c.key.cells ++ .int .u64 0 :: .int .u64 0 :: .int .u64 0 :: .int .u64 0 :: .int .i64 0 :: .string .empty :: c.val.cells).toArray = (⟨c.key, W.zero, 0, .empty, c.val⟩ : Ce).v := rfl
    simp only [push_cast, seval, reduceCtorEq, hs, e1, e2, e3]
theorem rcmay_ok (c : Ce) : CallsV Tryz.prog 69 [c.v] [] (Ret0 (.bool (mayCB c))) := by
  refine callsO gU1_ok Tryz.mix (fun i => if i = 1 then [(0, 9)] else Tryz.pl69 i) Tryz.func69 rfl Tryz.ntmps69 Tryz.results69 rfl (by first | rfl | assumption) (Nat.le_of_ble_eq_true rfl) (by kernel_rfl) ?_
  simp only [push_cast, seval, reduceCtorEq]
  intro b1
  refine regO gU1_ok ?_
  cases hs : c.key.slot
  · rw [mayCB_acc hs]
    by_cases c1 : c.key.key = W.zero
    case neg => simp only [push_cast, seval, reduceCtorEq, hs, decide_eq_false c1, Bool.false_and]
    by_cases c2 : c.val = W.zero
    case neg => simp only [push_cast, seval, reduceCtorEq, hs, decide_eq_true c1, decide_eq_false c2, Bool.false_and]
    by_cases c3 : 0 ≤ c.nonce
    case neg => simp only [push_cast, seval, reduceCtorEq, hs, decide_eq_true c1, decide_eq_true c2, c3, Bool.false_and]
    by_cases c4 : c.nonce ≤ 9007199254740992
    case neg => simp only [push_cast, seval, reduceCtorEq, hs, decide_eq_true c1, decide_eq_true c2, c3, c4, Bool.false_and]
    have e : decide ((c.code.size : Int) ≤ 24576) = decide (c.code.size ≤ 24576) := by rw [decide_eq_decide]; omega
    simp only [push_cast, seval, reduceCtorEq, hs, decide_eq_true c1, decide_eq_true c2, c3, c4, e]
  · have hm : mayCB c = (decide (c.bal = W.zero) && (decide (c.nonce = 0) && decide (c.code = .empty))) := by
      rw [mayCB_slot hs, Bool.eq_iff_iff]
      simp only [Bool.and_eq_true, decide_eq_true_eq]
      constructor
      · intro h; exact ⟨congrArg Ce.bal h, congrArg Ce.nonce h, congrArg Ce.code h⟩
      · rintro ⟨h1, h2, h3⟩; exact Ce.ext rfl h1 h2 h3 rfl
    rw [hm]
    by_cases c1 : c.bal = W.zero
    case neg => simp only [push_cast, seval, reduceCtorEq, hs, decide_eq_false c1, Bool.false_and]
    by_cases c2 : c.nonce = 0
    case neg => simp only [push_cast, seval, reduceCtorEq, hs, decide_eq_true c1, decide_eq_false c2, beq_eq_false_iff_ne.2 c2, Bool.false_and]
    simp only [push_cast, seval, reduceCtorEq, hs, decide_eq_true c1, c2]
    rw [show (⟨#[]⟩ : ByteArray) = .empty from rfl, code_eq]
end Go.Proofs.YtincedmdkdjakaaGreat
set_option linter.unusedSimpArgs false
set_option linter.unusedVariables false
namespace Go.Ev
theorem any_some {α : Type} {f : α → Bool} {l : List α} {j : Nat} {y : α} (hy : l[j]? = some y) (h : f y = true) : l.any f = true := List.any_eq_true.2 ⟨y, List.mem_of_getElem? hy, h⟩
noncomputable def srtY (l : List Ky) : Bool := pB (∀ (i : Nat) x y, l[i]? = some x → l[i + 1]? = some y → ¬ y.lt x)
def adjY (l : List Ky) : Prop := ∀ (i : Nat) x y, l[i]? = some x → l[i + 1]? = some y → x ≠ y
theorem kySets (l : List Ky) (k : Nat) (x : Ky) (hk : k < l.length) : List.take (k * 25) (l.flatMap Ky.cells) ++ (x.cells ++ List.drop (k * 25 + 25) (l.flatMap Ky.cells)) = (l.set k x).flatMap Ky.cells := by
  have hd : ∀ (l : List Ky) (i : Nat), List.drop (i * 25) (l.flatMap Ky.cells) = (l.drop i).flatMap Ky.cells := by
    intro l
    induction l with
    | nil => intro i; simp
    | cons x r ih =>
      intro i
      cases i with
      | zero => simp
      | succ i =>
        rw [List.flatMap_cons, Nat.succ_mul, Nat.add_comm, ← List.drop_drop, List.drop_left' (Ky.len x), ih, List.drop_succ_cons]
  have ht : ∀ (l : List Ky) (i : Nat), List.take (i * 25) (l.flatMap Ky.cells) = (l.take i).flatMap Ky.cells := by
    intro l
    induction l with
    | nil => intro i; simp
    | cons x r ih =>
      intro i
      cases i with
      | zero => simp
      | succ i => rw [List.flatMap_cons, Nat.succ_mul, Nat.add_comm, ← Ky.len x, List.take_length_add_append, Ky.len x, ih, List.take_succ_cons, List.flatMap_cons]
  rw [show k * 25 + 25 = (k + 1) * 25 by omega, hd, ht, List.set_eq_take_append_cons_drop, if_pos hk, List.flatMap_append, List.flatMap_cons]
theorem kyAt {l : List Ky} {i : Nat} {x : Ky} (h : l[i]? = some x) : i * 25 + 25 ≤ (l.flatMap Ky.cells).length ∧ List.take 25 (List.drop (i * 25) (l.flatMap Ky.cells)) = x.cells := by
  have h1 := (List.getElem?_eq_some_iff.1 h).1
  refine ⟨by rw [flatMap_len (fun x => Ky.len x)]; omega, ?_⟩
  have := flatMap_at (c := Ky.cells) (s := 25) (fun x => Ky.len x) h (q := 0) (n := 25) (Nat.le_refl _)
  rw [Nat.add_zero, List.drop_zero, Ky.take25] at this
  exact this
end Go.Ev
namespace Go.Proofs.YtincedmdkdjakaaGreat
open Go Go.Ev Go.Proofs
set_option maxRecDepth 100000
set_option maxHeartbeats 4000000
theorem index1Y_ok {M : Hp} {l : List Ky} {v : Value} {k : Ky} (hv : LiR Ky.cells 25 M l v) (hm : marksOf M = []) (hn : l.length ≤ 2199023255551) : CallsV Tryz.prog 122 [v, k.v] M (Ret0 (.int .i64 (idxF (fun y => decide (k = y)) l))) := by
  obtain ⟨p, c, rfl, hla⟩ := LiR.openY hv
  refine callsO gU1_ok Tryz.mix Tryz.pl122 Tryz.func122 rfl Tryz.ntmps122 Tryz.results122 rfl (by first | rfl | assumption) (Nat.le_of_ble_eq_true rfl) (by kernel_rfl) ?_
  simp only [push_cast, seval, reduceCtorEq]
  intro b3 hb3
  refine loopO gU1_ok (pl := Tryz.pl122) Tryz.mix (X := Nat)
    (fun i => ([(0, .slice p l.length c), (3, .pointer (some ⟨b3, 0, none⟩)), (7, .int .i64 l.length), (8, .int .i64 i)], ⟨b3, 0, .cel 45, k.cells⟩ :: M))
    (fun i => i ≤ l.length ∧ ∀ j y, j < i → l[j]? = some y → decide (k = y) = false) (fun i => l.length - i) 0 ?_ ?_ (by kernel_rfl) ?_
  · exact ⟨Nat.zero_le _, fun i x h => by omega⟩
  · simp only [push_cast, seval, reduceCtorEq]
  · rintro i ⟨hi, ho⟩
    dsimp only at hi ho ⊢
    rcases Nat.lt_or_ge i l.length with hlt | hge
    · obtain ⟨x, hx⟩ : ∃ x, l[i]? = some x := ⟨l[i], List.getElem?_eq_getElem hlt⟩
      rcases hla with rfl | ⟨b, f', d, kd, cs, rfl, hfe, hat⟩
      · simp at hlt
      obtain ⟨a1, a2⟩ := hat i x hx
      have i1 : (i : Int) < (l.length : Int) := by omega
      have n3 := (fresh_findS hb3 hfe).2
      by_cases hxk : k = x
      · have e : idxF (fun y => decide (k = y)) l = i := idxF_some hx (decide_eq_true hxk) ho
        rw [e]
        simp only [push_cast, seval, reduceCtorEq, i1, hlt, hfe, n3, a1, a2, hxk, decide_true]
      · simp only [push_cast, seval, reduceCtorEq, i1, hlt, hfe, n3, a1, a2, hxk, decide_false, wrap_i64' (show -9223372036854775808 ≤ (i : Int) + 1 ∧ (i : Int) + 1 ≤ 9223372036854775807 by omega)]
        refine ⟨i + 1, ⟨hlt, fun j y hj hy => ?_⟩, by omega, rfl⟩
        rcases Nat.lt_or_ge j i with h5 | h5
        · exact ho j y h5 hy
        · obtain rfl : j = i := by omega
          rw [hx] at hy; cases hy
          exact decide_eq_false hxk
    · obtain rfl : i = l.length := by omega
      have e : idxF (fun y => decide (k = y)) l = -1 := idxF_none (fun j y hj => ho j y (List.getElem?_eq_some_iff.1 hj).1 hj)
      rw [e]
      simp only [push_cast, seval, reduceCtorEq, Nat.lt_irrefl, Int.lt_irrefl]
theorem anyEq (k : Ky) (l : List Ky) : (l.any fun y => decide (k = y)) = decide (k ∈ l) := by
  rw [Bool.eq_iff_iff, List.any_eq_true, decide_eq_true_eq]
  constructor
  · rintro ⟨y, hy, h⟩; rw [of_decide_eq_true h]; exact hy
  · intro h; exact ⟨k, h, decide_eq_true rfl⟩
theorem containsY_ok {M : Hp} {l : List Ky} {v : Value} {k : Ky} (hv : LiR Ky.cells 25 M l v) (hm : marksOf M = []) (hn : l.length ≤ 2199023255551) : CallsV Tryz.prog 100 [v, k.v] M (Ret0 (.bool (decide (k ∈ l)))) := by
  have hv' := hv
  obtain ⟨p, c, rfl⟩ := LiR.slice hv'
  rw [← anyEq, ← idxF_any]
  refine callsO gU1_ok Tryz.mix Tryz.pl100 Tryz.func100 rfl Tryz.ntmps100 Tryz.results100 rfl (by first | rfl | assumption) (Nat.le_of_ble_eq_true rfl) (by kernel_rfl) ?_
  simp only [push_cast, seval, reduceCtorEq]
  intro b3 hb3
  refine useP [_] (fun _ hr he => index1Y_ok (hv.congr he.symm) hr.marks hn) ⟨hb3, trivial⟩ ?_
  simp only [push_cast, seval, reduceCtorEq]
theorem containsY_R {M : Hp} {l : List Ky} {v : Value} {k : Ky} (hv : LiR Ky.cells 25 M l v) (hn : l.length ≤ 2199023255551) : ∀ M0, roM M0 → cellsAt M0 = cellsAt M → CallsV Tryz.prog 100 [v, k.v] M0 (Ret0 (.bool (decide (k ∈ l)))) :=
  fun _ hr he => containsY_ok (hv.congr he.symm) hr.marks hn
theorem amay_ok {M : Hp} {R W' : List Ky} {v : Value} {k : Ky} {w : Bool} (hv : SeR R W' v M) (hm : marksOf M = []) (hn : R.length ≤ 2199023255551) (hn2 : W'.length ≤ 2199023255551) : CallsV Tryz.prog 66 [v, k.v, .bool w] M (Ret0 (.bool (mayB R W' k w))) := by
  obtain ⟨vr, vw, rfl, h1, h2⟩ := hv
  have h1' := h1
  have h2' := h2
  obtain ⟨p1, c1, rfl⟩ := LiR.slice h1'
  obtain ⟨p2, c2, rfl⟩ := LiR.slice h2'
  unfold mayB
  refine callsO gU1_ok Tryz.mix (fun i => if i = 1 then [(0, 9)] else Tryz.pl66 i) Tryz.func66 rfl Tryz.ntmps66 Tryz.results66 rfl (by first | rfl | assumption) (Nat.le_of_ble_eq_true rfl) (by kernel_rfl) ?_
  simp only [push_cast, seval, reduceCtorEq]
  intro b2 hb2 b3 hb3
  have f2 : freshN [⟨b3, 0, .cel 45, k.cells⟩, ⟨b2, 0, .cel 30, [.slice p1 R.length c1, .slice p2 W'.length c2]⟩] M := ⟨hb3.2.2, hb2, trivial⟩
  refine regO gU1_ok ?_
  simp only [push_cast, seval, reduceCtorEq, hb3]
  refine useP [_, _] (containsY_R h2 hn2) f2 ?_
  by_cases c : k ∈ W'
  · simp only [push_cast, seval, reduceCtorEq, hb3, decide_eq_true c, Bool.true_or]
  cases w
  · simp only [push_cast, seval, reduceCtorEq, hb3, decide_eq_false c, Bool.false_or]
    refine useP [_, _] (containsY_R h1 hn) f2 ?_
    simp only [push_cast, seval, reduceCtorEq, hb3, decide_eq_false c, Bool.false_or, Bool.not_false, Bool.true_and]
  · simp only [push_cast, seval, reduceCtorEq, hb3, decide_eq_false c, Bool.false_or, Bool.not_true, Bool.false_and]
theorem amay_R {M : Hp} {R W' : List Ky} {v : Value} {k : Ky} {w : Bool} (hv : SeR R W' v M) (hn : R.length ≤ 2199023255551) (hn2 : W'.length ≤ 2199023255551) : ∀ M0, roM M0 → cellsAt M0 = cellsAt M → CallsV Tryz.prog 66 [v, k.v, .bool w] M0 (Ret0 (.bool (mayB R W' k w))) :=
  fun _ hr he => amay_ok (SeR.rd _ _ _ _ _ he.symm hv) hr.marks hn hn2
theorem isSortedY_ok {H : Hp} {l : List Ky} {v : Value} (hm : marksOf H = []) (hn : l.length ≤ 2199023255551) (hl : LiR Ky.cells 25 H l v) :
    CallsV Tryz.prog 105 [v, .func (.func 101) #[] #[]] H (Ret0 (.bool (srtY l))) := by
  obtain ⟨p, k, rfl, hla⟩ := LiR.openY hl
  refine callsO gU2_ok Tryz.mix Tryz.pl105 Tryz.func105 rfl Tryz.ntmps105 Tryz.results105 rfl (by first | rfl | assumption) (Nat.le_of_ble_eq_true rfl) (by kernel_rfl) ?_
  simp only [push_cast, seval, reduceCtorEq, wrap_i64' (show -9223372036854775808 ≤ (l.length : Int) - 1 ∧ (l.length : Int) - 1 ≤ 9223372036854775807 by omega)]
  refine loopO gU2_ok (pl := Tryz.pl105) Tryz.mix (X := Nat)
    (fun i => ([(0, .slice p l.length k), (1, .func (.func 101) #[] #[]), (5, .int .i64 ((i : Int) - 1))], H))
    (fun i => i ≤ l.length ∧ ∀ (j : Nat) x y, i ≤ j + 1 → l[j]? = some x → l[j + 1]? = some y → ¬ y.lt x) (fun i => i) l.length ?_ ?_ (by kernel_rfl) ?_
  · refine ⟨Nat.le_refl _, fun j x y h hx hy => ?_⟩
    have := (List.getElem?_eq_some_iff.1 hy).1
    omega
  · simp only [push_cast, seval, reduceCtorEq]
  · rintro i ⟨hi, ho⟩
    dsimp only at hi ho ⊢
    rcases Nat.lt_or_ge i 2 with h2 | h2
    · have e : srtY l = true := pB_t fun j x y hx hy => ho j x y (by omega) hx hy
      have i1 : ¬ (0 : Int) < (i : Int) - 1 := by omega
      rw [e]
      simp only [push_cast, seval, reduceCtorEq, i1]
    · obtain ⟨m, rfl⟩ : ∃ m, i = m + 2 := ⟨i - 2, by omega⟩
      obtain ⟨x, hx⟩ : ∃ x, l[m]? = some x := ⟨l[m]'(by omega), List.getElem?_eq_getElem (by omega)⟩
      obtain ⟨y, hy⟩ : ∃ x, l[m + 1]? = some x := ⟨l[m + 1]'(by omega), List.getElem?_eq_getElem (by omega)⟩
      rcases hla with rfl | ⟨b, f', d, kd, cs, rfl, hfe, hat⟩
      · simp at hx
      obtain ⟨a1, a2⟩ := hat m x hx
      obtain ⟨b1, b2⟩ := hat (m + 1) y hy
      have i0 : (m : Int) + 2 - 1 = (m : Int) + 1 := by omega
      have i1 : (0 : Int) < (m : Int) + 1 := by omega
      have i2 : (m : Int) + 1 < (l.length : Int) := by omega
      have i3 : (m : Int) < (l.length : Int) := by omega
      have i4 : m + 1 < l.length := by omega
      have i5 : m < l.length := by omega
      have i6 : (m : Int) + 1 - 1 = (m : Int) := by omega
      have i7 : (0 : Int) ≤ (m : Int) + 1 := by omega
      have i8 : ((m : Int) + 1).toNat = m + 1 := by omega
      by_cases hc : y.lt x
      · have e : srtY l = false := pB_f fun h => h m x y hx hy hc
        have ec : ordY y x < 0 := ordY_neg.2 hc
        rw [e]
        simp only [push_cast, seval, reduceCtorEq, i0, i1, i2, i3, i4, i5, i6, i7, i8, hfe, a1, a2, b1, b2, wrap_i64' (show -9223372036854775808 ≤ (m : Int) ∧ (m : Int) ≤ 9223372036854775807 by omega), ec]
      · have ec : ¬ ordY y x < 0 := fun h => hc (ordY_neg.1 h)
        simp only [push_cast, seval, reduceCtorEq, i0, i1, i2, i3, i4, i5, i6, i7, i8, hfe, a1, a2, b1, b2, wrap_i64' (show -9223372036854775808 ≤ (m : Int) ∧ (m : Int) ≤ 9223372036854775807 by omega), ec]
        refine ⟨m + 1, ⟨by omega, fun j u w hj hu hw => ?_⟩, by omega, ?_⟩
        · rcases Nat.lt_or_ge m j with h5 | h5
          · exact ho j u w (by omega) hu hw
          · obtain rfl : j = m := by omega
            rw [hx] at hu; cases hu
            rw [hy] at hw; cases hw
            exact hc
        · rw [show (((m + 1 : Nat) : Int) - 1) = (m : Int) by omega]
end Go.Proofs.YtincedmdkdjakaaGreat
set_option linter.unusedSimpArgs false
set_option linter.unusedVariables false
namespace Go.Proofs.YtincedmdkdjakaaGreat
open Go Go.Ev Go.Proofs
set_option maxRecDepth 100000
set_option maxHeartbeats 4000000
def plCp : Plans := fun i => if i = 7 then [(0, 9)] else if i = 14 then [(0, 9)] else Tryz.pl106 i
attribute [push_cast] plCp
theorem compactY_ok {l : List Ky} {v : Value} {N : Hp} (ho : OutG 45 25 (l.flatMap Ky.cells) l.length v N) (hn : l.length ≤ 1000000000) :
    CallsV Tryz.prog 106 [v] N (fun u N' => (∃ p k m, u = .slice p m k ∧ (m = l.length ↔ adjY l)) ∧ N' = []) := by
  have done : ∀ {A : Hp} {p : Option Addr} {k m : Nat}, (m = l.length ↔ adjY l) → ∃ H', List.Sublist H' A ∧ (∃ p' k' m', Value.slice p m k = .slice p' m' k' ∧ (m' = l.length ↔ adjY l)) ∧ H' = [] := fun h => ⟨[], List.nil_sublist _, ⟨_, _, _, rfl, h⟩, rfl⟩
  rcases ho with ⟨h0, -, rfl, rfl⟩ | ⟨b, c, rfl, hc, hcl, rfl⟩
  · have ha : 0 = l.length ↔ adjY l := by
      refine ⟨fun _ i x y hx => ?_, fun _ => h0.symm⟩
      have := (List.getElem?_eq_some_iff.1 hx).1
      omega
    refine callsO gU2_ok Tryz.mix plCp Tryz.func106 rfl Tryz.ntmps106 Tryz.results106 rfl (by first | rfl | assumption) (Nat.le_of_ble_eq_true rfl) (by kernel_rfl) ?_
    simp only [push_cast, seval, reduceCtorEq]
    exact done ha
  refine callsO gU2_ok Tryz.mix plCp Tryz.func106 rfl Tryz.ntmps106 Tryz.results106 rfl (by first | rfl | assumption) (Nat.le_of_ble_eq_true rfl) (by kernel_rfl) ?_
  rcases Nat.lt_or_ge l.length 2 with h2 | h2
  · have ha : l.length = l.length ↔ adjY l := by
      refine ⟨fun _ i x y _ hy => ?_, fun _ => rfl⟩
      have := (List.getElem?_eq_some_iff.1 hy).1
      omega
    have i1 : (l.length : Int) < 2 := by omega
    simp only [push_cast, seval, reduceCtorEq, i1]
    exact done ha
  have i1 : ¬ (l.length : Int) < 2 := by omega
  simp only [push_cast, seval, reduceCtorEq, i1]
  refine loopO gU2_ok (pl := plCp) Tryz.mix (X := Nat)
    (fun i => ([(0, .slice (some ⟨b, 0, none⟩) l.length c), (3, .int .i64 (i : Nat))], [⟨b, 0, .vec 45 25 c, l.flatMap Ky.cells⟩]))
    (fun i => 1 ≤ i ∧ i ≤ l.length ∧ ∀ (j : Nat) x y, j + 1 < i → l[j]? = some x → l[j + 1]? = some y → x ≠ y) (fun i => l.length - i) 1 ?_ ?_ (by kernel_rfl) ?_
  · exact ⟨Nat.le_refl _, by omega, fun j x y h => by omega⟩
  · simp only [push_cast, seval, reduceCtorEq]
  · rintro i ⟨hi1, hi, hd⟩
    dsimp only at hi1 hi hd ⊢
    rcases Nat.lt_or_ge i l.length with hlt | hge
    · obtain ⟨m, rfl⟩ : ∃ m, i = m + 1 := ⟨i - 1, by omega⟩
      obtain ⟨x, hx⟩ : ∃ x, l[m]? = some x := ⟨l[m]'(by omega), List.getElem?_eq_getElem (by omega)⟩
      obtain ⟨y, hy⟩ : ∃ x, l[m + 1]? = some x := ⟨l[m + 1]'(by omega), List.getElem?_eq_getElem (by omega)⟩
      obtain ⟨a1, a2⟩ := kyAt hx
      obtain ⟨b1, b2⟩ := kyAt hy
      have i2 : (m : Int) + 1 < (l.length : Int) := by omega
      have i3 : (m : Int) < (l.length : Int) := by omega
      have i4 : m + 1 < l.length := by omega
      have i5 : m < l.length := by omega
      have i6 : (m : Int) + 1 - 1 = (m : Int) := by omega
      have i7 : (0 : Int) ≤ (m : Int) + 1 := by omega
      have i8 : ((m : Int) + 1).toNat = m + 1 := by omega
      by_cases hxy : y = x
      case neg =>
        simp only [push_cast, seval, reduceCtorEq, i2, i3, i4, i5, i6, i7, i8, a1, a2, b1, b2, wrap_i64' (show -9223372036854775808 ≤ (m : Int) ∧ (m : Int) ≤ 9223372036854775807 by omega), decide_eq_false hxy, wrap_i64' (show -9223372036854775808 ≤ (m : Int) + 1 + 1 ∧ (m : Int) + 1 + 1 ≤ 9223372036854775807 by omega)]
        refine ⟨m + 2, ⟨by omega, by omega, fun j u w hj hu hw => ?_⟩, by omega, by first | rfl | exact ⟨rfl, rfl⟩⟩
        rcases Nat.lt_or_ge j m with h5 | h5
        · exact hd j u w (by omega) hu hw
        · obtain rfl : j = m := by omega
          rw [hx] at hu; cases hu
          rw [hy] at hw; cases hw
          exact fun e => hxy e.symm
      have hna : ¬ adjY l := fun h => h m x y hx hy hxy.symm
      simp only [push_cast, seval, reduceCtorEq, i2, i3, i4, i5, i6, i7, i8, a1, a2, b1, b2, wrap_i64' (show -9223372036854775808 ≤ (m : Int) ∧ (m : Int) ≤ 9223372036854775807 by omega), decide_eq_true hxy]
      refine regO gU2_ok ?_
      have j1 : (m : Int) + 1 ≤ (l.length : Int) := by omega
      have j2 : m + 1 ≤ l.length := by omega
      have j3 : ¬ c = m + 1 := by omega
      have j4 : m + 1 ≤ c := by omega
      simp only [push_cast, seval, reduceCtorEq, i2, i3, i4, i5, i6, i7, i8, j1, j2, j3, j4]
      refine loopO gU2_ok (pl := plCp) Tryz.mix (X := Nat × Nat × List Ky)
        (fun s => ([(0, .slice (some ⟨b, 0, none⟩) l.length c), (3, .int .i64 (s.2.1 : Nat)), (4, .slice (some ⟨b, (m + 1) * 25, none⟩) (l.length - (m + 1)) (c - (m + 1))), (5, .int .i64 (s.1 : Nat))], [⟨b, 0, .vec 45 25 c, s.2.2.flatMap Ky.cells⟩]))
        (fun s => 1 ≤ s.1 ∧ s.1 ≤ l.length - (m + 1) ∧ m + 1 ≤ s.2.1 ∧ s.2.1 ≤ m + s.1 ∧ s.2.2.length = l.length) (fun s => l.length - (m + 1) - s.1) (1, m + 1, l) ?_ ?_ (by kernel_rfl) ?_
      · exact ⟨Nat.le_refl _, by dsimp only; omega, Nat.le_refl _, Nat.le_refl _, rfl⟩
      · simp only [push_cast, seval, reduceCtorEq]
      · rintro ⟨k2, k', q⟩ ⟨g1, g2, g3, g4, g5⟩
        dsimp only at g1 g2 g3 g4 g5 ⊢
        rcases Nat.lt_or_ge k2 (l.length - (m + 1)) with hl2 | hg2
        · obtain ⟨r, rfl⟩ : ∃ r, k2 = r + 1 := ⟨k2 - 1, by omega⟩
          obtain ⟨u, hu⟩ : ∃ x, q[m + 1 + r]? = some x := ⟨q[m + 1 + r]'(by omega), List.getElem?_eq_getElem (by omega)⟩
          obtain ⟨w, hw⟩ : ∃ x, q[m + 1 + (r + 1)]? = some x := ⟨q[m + 1 + (r + 1)]'(by omega), List.getElem?_eq_getElem (by omega)⟩
          obtain ⟨c1, c2⟩ := kyAt hu
          obtain ⟨d1, d2⟩ := kyAt hw
          rw [Nat.add_mul] at c1 c2 d1 d2
          have t2 : (r : Int) + 1 < ((l.length - (m + 1) : Nat) : Int) := by omega
          have t3 : (r : Int) < ((l.length - (m + 1) : Nat) : Int) := by omega
          have t4 : r + 1 < l.length - (m + 1) := by omega
          have t5 : r < l.length - (m + 1) := by omega
          have t6 : (r : Int) + 1 - 1 = (r : Int) := by omega
          have t7 : (0 : Int) ≤ (r : Int) + 1 := by omega
          have t8 : ((r : Int) + 1).toNat = r + 1 := by omega
          have t9 : k' < l.length := by omega
          have e1 : k' * 25 + 25 ≤ (q.flatMap Ky.cells).length := by rw [flatMap_len (fun x => Ky.len x)]; omega
          have e2 := kySets q k' w (by omega)
          obtain ⟨nn, hnn⟩ : ∃ nn, nn = l.length - (m + 1) := ⟨_, rfl⟩
          rw [← hnn] at t2 t3 t4 t5 ⊢
          by_cases huw : w = u
          · simp only [push_cast, seval, reduceCtorEq, t2, t3, t4, t5, t6, t7, t8, c1, c2, d1, d2, wrap_i64' (show -9223372036854775808 ≤ (r : Int) ∧ (r : Int) ≤ 9223372036854775807 by omega), decide_eq_true huw, Bool.not_true, wrap_i64' (show -9223372036854775808 ≤ (r : Int) + 1 + 1 ∧ (r : Int) + 1 + 1 ≤ 9223372036854775807 by omega)]
            exact ⟨(r + 2, k', q), ⟨by dsimp only; omega, by dsimp only; omega, g3, by dsimp only; omega, g5⟩, by dsimp only; omega, ⟨⟨rfl, by dsimp only; rw [show ((r + 2 : Nat) : Int) = (r : Int) + 1 + 1 by omega]⟩, rfl⟩⟩
          · simp only [push_cast, seval, reduceCtorEq, t2, t3, t4, t5, t6, t7, t8, t9, c1, c2, d1, d2, e1, e2, wrap_i64' (show -9223372036854775808 ≤ (r : Int) ∧ (r : Int) ≤ 9223372036854775807 by omega), decide_eq_false huw, Bool.not_false, wrap_i64' (show -9223372036854775808 ≤ (r : Int) + 1 + 1 ∧ (r : Int) + 1 + 1 ≤ 9223372036854775807 by omega), wrap_i64' (show -9223372036854775808 ≤ (k' : Int) + 1 ∧ (k' : Int) + 1 ≤ 9223372036854775807 by omega)]
            exact ⟨(r + 2, k' + 1, q.set k' w), ⟨by dsimp only; omega, by dsimp only; omega, by dsimp only; omega, by dsimp only; omega, by dsimp only; rw [List.length_set]; exact g5⟩, by dsimp only; omega, ⟨⟨rfl, by dsimp only; rw [show ((r + 2 : Nat) : Int) = (r : Int) + 1 + 1 by omega]⟩, rfl⟩⟩
        · obtain rfl : k2 = l.length - (m + 1) := by omega
          have ha : k' = l.length ↔ adjY l := ⟨fun h => absurd h (by omega), fun h => absurd h hna⟩
          simp only [push_cast, seval, reduceCtorEq, Int.lt_irrefl, Nat.lt_irrefl]
          refine regO gU2_ok ?_
          have u1 : k' ≤ l.length := by omega
          have u2 : (k' : Int) ≤ (l.length : Int) := by omega
          have u3 : k' ≤ c := by omega
          have u4 : (k' : Int) ≤ (c : Int) := by omega
          have u5 : ¬ c = k' := by omega
          have u6 : (q.flatMap Ky.cells).length = l.length * 25 := by rw [flatMap_len (fun x => Ky.len x), g5]
          have u7 : ¬ l.length - k' = 0 := by omega
          simp only [push_cast, seval, reduceCtorEq, u1, u2, u3, u4, u5, u6, u7]
          exact ⟨by omega, done ha⟩
    · obtain rfl : i = l.length := by omega
      have ha : l.length = l.length ↔ adjY l := ⟨fun _ j x y hx hy => hd j x y (List.getElem?_eq_some_iff.1 hy).1 hx hy, fun _ => rfl⟩
      simp only [push_cast, seval, reduceCtorEq, Int.lt_irrefl, Nat.lt_irrefl]
      exact done ha
end Go.Proofs.YtincedmdkdjakaaGreat
set_option linter.unusedSimpArgs false
set_option linter.unusedVariables false
namespace Go.Ev
theorem find_left {b : Nat} {e : Ent} {A B : Hp} (h : findE A b = some e) : findE (A ++ B) b = some e := by rw [findE_app, h]
theorem CallsV.sub0 {P : Program} {g : FuncId} {args : List Value} {H : Hp} {v : Value} (hc : CallsV P g args [] (Ret0 v)) (hm : marksOf H = []) : CallsV P g args H (Ret0 v) := by
  refine ⟨hc.1, fun w0 mu w h => (hc.2 w0 mu w (h.sub (H' := []) trivial)).mono ?_⟩
  rintro e w' ⟨v, H'', h1, h2, h3, h4⟩
  exact ⟨v, H'', h1, h2, h3, h4.trans hm.symm⟩
theorem rightKs_iff (l : List Ky) : rightKs l ↔ l.length ≤ 200 ∧ (l.any fun k => !k.may) = false ∧ srtY l = true ∧ adjY l := by
  have hm : (l.any fun k => !k.may) = false ↔ ∀ k ∈ l, mayKy k := by
    rw [List.any_eq_false]
    exact ⟨fun h k hk => (Ky.may_iff k).1 (by have := h k hk; cases hm : k.may <;> simp_all), fun h k hk => by rw [(Ky.may_iff k).2 (h k hk)]; decide⟩
  constructor
  · rintro ⟨h1, h2, h3⟩
    refine ⟨h3, hm.2 h1, pB_t fun i x y hx hy h => ?_, fun i x y hx hy h => ?_⟩
    · exact Ky.lt_asymm h (pw_at h2 (Nat.lt_succ_self i) hx hy)
    · exact Ky.lt_ne (pw_at h2 (Nat.lt_succ_self i) hx hy) h
  · rintro ⟨h1, h2, h3, h4⟩
    refine ⟨hm.1 h2, pw_adj (R := Ky.lt) (fun _ _ _ => Ky.lt_trans) fun i x y hx hy => ?_, h1⟩
    rcases Ky.tri x y with h | h | h
    · exact h
    · exact absurd h (h4 i x y hx hy)
    · exact absurd h (pB_iff.1 h3 i x y hx hy)
end Go.Ev
namespace Go.Proofs.YtincedmdkdjakaaGreat
open Go Go.Ev Go.Proofs
set_option maxRecDepth 100000
set_option maxHeartbeats 4000000
theorem valuesYs_ok (p : Option Addr) (n c : Nat) : CallsV Tryz.prog 127 [.slice p n c] [] (fun r N => ∃ b1, r = .func (.func 143) #[] #[.pointer (some ⟨b1, 0, none⟩)] ∧ N = [⟨b1, 0, .cel 120, [.slice p n c]⟩]) := by
  refine callsO (noG_ok _) Tryz.mix Tryz.pl127 Tryz.func127 rfl Tryz.ntmps127 Tryz.results127 rfl (by first | rfl | assumption) (Nat.le_of_ble_eq_true rfl) (by kernel_rfl) ?_
  simp only [push_cast, seval, reduceCtorEq]
  intro b1
  exact ⟨_, List.Sublist.refl _, b1, rfl, rfl⟩
theorem ysIter {Hc : Hp} {ss : List Value} {b1 b0 c : Nat} {k1 k2 : Kind} (hn : ss.length < 1099511627776) (hmc : marksOf Hc = []) (h1 : findE Hc b1 = some ⟨b1, 0, k1, [.slice (some ⟨b0, 0, none⟩) ss.length c]⟩) (h2 : findE Hc b0 = some ⟨b0, 0, k2, ss⟩) :
    IterV Tryz.prog 143 [.pointer (some ⟨b1, 0, none⟩)] Hc (ss.map fun s => [s]) := by
  refine ⟨enterO Tryz.func143 rfl rfl, fun X Ho I St l x0 hro hmk h0 hy => ?_⟩
  have hmarks : ∀ x, marksOf (Hc ++ Ho x) = [] := fun x => by rw [marks_append, hmc, hmk]; rfl
  have hm0 := hmarks x0
  have h1' := fun z => find_left (B := Ho z) h1
  have h2' := fun z => find_left (B := Ho z) h2
  have yl : ∀ (j : Nat) (z : X) (v : Value) (K' : Value → Hp → Prop) (hj : j < ss.length), v = ss[j] → I j z → (∀ x', I (j + 1) x' → K' (.bool true) (Hc ++ Ho x')) → (∀ x', St x' → K' (.bool false) (Hc ++ Ho x')) → YieldV Tryz.prog l [v] (Hc ++ Ho z) K' := fun j z v K' hj hv hi ht hf => by
    subst hv
    refine (hy j z [ss[j]] (by rw [List.getElem?_map, List.getElem?_eq_getElem hj]; rfl) hi).frame ?_ ?_
    · rintro v H' (⟨rfl, x', _, rfl⟩ | ⟨rfl, x', _, rfl⟩) <;> exact hro z x'
    · rintro v H' (⟨rfl, x', h, rfl⟩ | ⟨rfl, x', h, rfl⟩)
      · exact ht x' h
      · exact hf x' h
  obtain ⟨vs, hvs⟩ : ∃ vs, vs = ss.map fun s => [s] := ⟨_, rfl⟩
  have hvl : vs.length = ss.length := by rw [hvs]; simp
  have yf : ∀ (x' : X), (I vs.length x' ∨ St x') → ∃ H'_1, List.Sublist H'_1 (dropM (Hc ++ Ho x')) ∧ ∃ z, (I vs.length z ∨ St z) ∧ H'_1 = Ho z := fun x' hst => by
    refine ⟨Ho x', ?_, x', hst, rfl⟩
    rw [dropM_eq (hmarks x')]
    exact List.sublist_append_right _ _
  rw [← hvs]
  refine callsO (noG_ok _) Tryz.mix Tryz.pl143 Tryz.func143 rfl Tryz.ntmps143 Tryz.results143 rfl (by first | rfl | assumption) (Nat.le_of_ble_eq_true rfl) (by kernel_rfl) ?_
  simp only [push_cast, seval, reduceCtorEq, h1', h2']
  refine loopO (noG_ok _) (pl := Tryz.pl143) Tryz.mix (X := Nat × X)
    (fun s => ([(0, .func (.yield l) #[] #[]), (5, .slice (some ⟨b0, 0, none⟩) ss.length c), (6, .int .i64 ss.length), (7, .int .i64 s.1)], Hc ++ Ho s.2))
    (fun s => s.1 ≤ ss.length ∧ I s.1 s.2) (fun s => ss.length - s.1) (0, x0) ?_ ?_ (by kernel_rfl) ?_
  · exact ⟨Nat.zero_le _, h0⟩
  · simp only [push_cast, seval, reduceCtorEq, hm0, subH_self]
  · rintro ⟨i, z⟩ ⟨hi, hI⟩
    dsimp only at hi hI ⊢
    rcases Nat.lt_or_ge i ss.length with hlt | hge
    · have i1 : (i : Int) < (ss.length : Int) := by omega
      have i2 : i + 1 ≤ ss.length := hlt
      have hat : List.take 1 (List.drop i ss) = [ss[i]] := by
        rw [List.drop_eq_getElem_cons hlt, List.take_succ_cons, List.take_zero]
      simp only [push_cast, seval, reduceCtorEq, h1', h2', i1, i2, hlt, hat]
      refine yl i z _ _ hlt rfl hI (fun x' hx' => ?_) (fun x' hx' => ?_)
      · simp only [push_cast, seval, reduceCtorEq, wrap_i64' (show -9223372036854775808 ≤ (i : Int) + 1 ∧ (i : Int) + 1 ≤ 9223372036854775807 by omega)]
        exact ⟨(i + 1, x'), ⟨hlt, hx'⟩, by dsimp only; omega, ⟨rfl, subH_self _, by simp only [hmarks]⟩⟩
      · simp only [push_cast, seval, reduceCtorEq]
        exact yf x' (.inr hx')
    · obtain rfl : i = ss.length := by omega
      simp only [push_cast, seval, reduceCtorEq, h1', h2', Nat.lt_irrefl]
      exact yf z (.inl (by rw [hvl]; exact hI))
theorem sets_ok (p1 : Option Addr) (n1 c1 : Nat) (p2 : Option Addr) (n2 c2 : Nat) : CallsV Tryz.prog 102 [.agg #[.slice p1 n1 c1, .slice p2 n2 c2]] [] (fun r N => ∃ b1 b0 k1 k2, ¬ b1 = b0 ∧ r = .func (.func 143) #[] #[.pointer (some ⟨b1, 0, none⟩)] ∧ N = [⟨b1, 0, .cel k1, [.slice (some ⟨b0, 0, none⟩) 2 2]⟩, ⟨b0, 0, .vec k2 1 2, [.slice p1 n1 c1, .slice p2 n2 c2]⟩]) := by
  refine callsO (noG_ok _) Tryz.mix Tryz.pl102 Tryz.func102 rfl Tryz.ntmps102 Tryz.results102 rfl (by first | rfl | assumption) (Nat.le_of_ble_eq_true rfl) (by kernel_rfl) ?_
  simp only [push_cast, seval, reduceCtorEq]
  intro b2 b0 hb0
  refine CallsV.use (valuesYs_ok _ _ _) (H := [_, _]) trivial ?_
  rintro r N ⟨b1, rfl, rfl⟩
  refine ⟨⟨trivial, trivial⟩, rfl, fun hf => ?_⟩
  simp only [push_cast, seval, reduceCtorEq] at hf
  simp only [push_cast, seval, reduceCtorEq, hb0, hf]
  exact ⟨[_, _], ((List.nil_sublist _).cons_cons _).cons_cons _, b1, b0, _, _, hf.1, rfl, rfl⟩
theorem cloneY_W {M : Hp} {l : List Ky} {v : Value} (hv : LiR Ky.cells 25 M l v) (hn : l.length ≤ 1000000000) : CallsW Tryz.prog 87 [v] M (fun v N _ => OutG 45 25 (l.flatMap Ky.cells) l.length v N) :=
  CallsV.toW (fun _ hr he => cloneY_ok (hv.congr he.symm) hr.marks hn) fun _ _ h => h.wr
theorem cloneE_W {M : Hp} {l : List Ce} {v : Value} (hv : LiR Ce.cells 35 M l v) (hn : l.length ≤ 1000000000) : CallsW Tryz.prog 88 [v] M (fun v N _ => OutG 74 35 (l.flatMap Ce.cells) l.length v N) :=
  CallsV.toW (fun _ hr he => cloneE_ok (hv.congr he.symm) hr.marks hn) fun _ _ h => h.wr
theorem anyOdd_ok {M0 : Hp} {l : List Ky} {v : Value} (hr : roM M0) (hn : l.length ≤ 2199023255551) (hv : LiR Ky.cells 25 M0 l v) : CallsV Tryz.prog 103 [v, .func (.func 104) #[] #[]] M0 (Ret0 (.bool (l.any fun k => !k.may))) :=
  containsFY_ok hr hn hv (g := 104) (caps := []) fun x _ => CallsV.sub0 (oddG_ok x) hr.marks
theorem aRight_ok {M : Hp} {R W' : List Ky} {v : Value} (hr : roM M) (hv : SeR R W' v M) (hn : R.length ≤ 1000000000) (hn2 : W'.length ≤ 1000000000) : CallsV Tryz.prog 68 [v] M (Ret0 (.bool (pB (rightKs R) && pB (rightKs W')))) := by
  have hm := hr.marks
  obtain ⟨vr, vw, rfl, h1, h2⟩ := hv
  have h1' := h1
  have h2' := h2
  obtain ⟨p1, c1, rfl⟩ := LiR.slice h1'
  obtain ⟨p2, c2, rfl⟩ := LiR.slice h2'
  refine callsO gU2_ok Tryz.mix (fun i => if i = 1 then [(0, 9)] else Tryz.pl68 i) Tryz.func68 rfl Tryz.ntmps68 Tryz.results68 rfl (by first | rfl | assumption) (Nat.le_of_ble_eq_true rfl) (by kernel_rfl) ?_
  simp only [push_cast, seval, reduceCtorEq]
  intro b1 hb1 b2 hb2
  refine regO gU2_ok ?_
  simp only [push_cast, seval, reduceCtorEq, hb2]
  refine CallsV.use (sets_ok p1 R.length c1 p2 W'.length c2) trivial ?_
  rintro r N ⟨b3, b0, k1, k2, hne, rfl, rfl⟩
  refine ⟨⟨trivial, trivial, trivial⟩, rfl, fun hf => ?_⟩
  simp only [push_cast, seval, reduceCtorEq] at hf
  simp only [push_cast, seval, reduceCtorEq, hb2, hf]
  have hm3 : marksOf M = [] := hm
  have hmr : ∀ r : Bool, marksOf (⟨b2, 0, .cel 4, [.bool r]⟩ :: M) = [] := fun r => hm
  refine rangeO gU2_ok (pl := fun i => if i = 1 then [(0, 9)] else Tryz.pl68 i) Tryz.mix (Hc := [⟨b3, 0, .cel k1, [.slice (some ⟨b0, 0, none⟩) 2 2]⟩, ⟨b0, 0, .vec k2 1 2, [.slice p1 R.length c1, .slice p2 W'.length c2]⟩]) (Hm := [])
    (ysIter (ss := [.slice p1 R.length c1, .slice p2 W'.length c2]) (b1 := b3) (b0 := b0) (c := 2) (k1 := .cel k1) (k2 := .vec k2 1 2) (by simp) rfl (by simp [findE]) (by simp [findE, Ne.symm hne])) rfl
    (X := Bool) (fun r => ⟨b2, 0, .cel 4, [.bool r]⟩ :: M)
    (fun k r => r = false ∧ (0 < k → rightKs R) ∧ (1 < k → rightKs W')) (fun c r => c = .ret ∧ r = false ∧ (pB (rightKs R) && pB (rightKs W')) = false) false
    ?_ ?_ ?_ rfl (by simp) hmr (fun x y e he => ?_) ?_ (by kernel_rfl) (by kernel_rfl) (fun c x h => ?_) ?_ ?_ ?_
  · exact ⟨rfl, fun h => absurd h (by decide), fun h => absurd h (by decide)⟩
  · simp only [push_cast, seval, reduceCtorEq, hf, hb2, hne]
    exact subH_drop hb1 (subH_self M)
  · exact hm
  · rcases List.mem_cons.1 he with rfl | he
    · exact .inl trivial
    · exact .inr (List.mem_cons_of_mem _ he)
  · intro args ha
    obtain ⟨z, _, rfl⟩ := List.mem_map.1 ha
    rfl
  · rw [h.1]; rfl
  · rintro lo k r args hk ⟨rfl, hk1, hk2⟩
    obtain ⟨l, p, c, rfl, hl, hln, hyes, hno⟩ : ∃ (l : List Ky) (p : Option Addr) (c : Nat), args = [.slice p l.length c] ∧ LiR Ky.cells 25 M l (.slice p l.length c) ∧ l.length ≤ 1000000000 ∧
        (rightKs l → (0 < k + 1 → rightKs R) ∧ (1 < k + 1 → rightKs W')) ∧ (¬ rightKs l → (pB (rightKs R) && pB (rightKs W')) = false) := by
      match k, hk with
      | 0, hk =>
        simp only [List.map_cons, List.getElem?_cons_zero, Option.some.injEq] at hk
        exact ⟨R, p1, c1, hk.symm, h1, hn, fun h => ⟨fun _ => h, fun h => absurd h (by decide)⟩, fun h => by rw [pB_f h]; rfl⟩
      | 1, hk =>
        simp only [List.map_cons, List.getElem?_cons_succ, List.getElem?_cons_zero, Option.some.injEq] at hk
        exact ⟨W', p2, c2, hk.symm, h2, hn2, fun h => ⟨fun _ => hk1 (by decide), fun _ => h⟩, fun h => by rw [pB_f h, Bool.and_false]⟩
      | k + 2, hk => simp at hk
    have hr1 := rightKs_iff l
    have hno' : ¬ rightKs l → ∀ H, subH H (⟨b2, 0, .cel 4, [.bool false]⟩ :: M) → ∀ T, roundK (fun r => ⟨b2, 0, .cel 4, [.bool r]⟩ :: M) (fun k r => r = false ∧ (0 < k → rightKs R) ∧ (1 < k → rightKs W')) (fun c r => c = .ret ∧ r = false ∧ (pB (rightKs R) && pB (rightKs W')) = false) k .ret T H := fun h H hs T => ⟨false, ⟨rfl, rfl, hno h⟩, hs⟩
    have hyes' : rightKs l → ∀ H, subH H (⟨b2, 0, .cel 4, [.bool false]⟩ :: M) → ∀ T, roundK (fun r => ⟨b2, 0, .cel 4, [.bool r]⟩ :: M) (fun k r => r = false ∧ (0 < k → rightKs R) ∧ (1 < k → rightKs W')) (fun c r => c = .ret ∧ r = false ∧ (pB (rightKs R) && pB (rightKs W')) = false) k .normal T H := fun h H hs T => ⟨false, ⟨rfl, hyes h⟩, hs⟩
    generalize (roundK _ _ _ k : Exit → Tm → Hp → Prop) = RK at hno' hyes' ⊢
    have hfb : fresh b2 M := hb2.2.2
    have hLM : freshN [⟨b2, 0, .cel 4, [.bool false]⟩] M := ⟨hfb, trivial⟩
    have hrs : roSub M (⟨b2, 0, .cel 4, [.bool false]⟩ :: M) := roSub_of fun e he => .inr (List.mem_cons_of_mem _ he)
    by_cases q1 : 200 < l.length
    · have i1 : (200 : Int) < (l.length : Int) := by omega
      simp only [push_cast, seval, reduceCtorEq, i1, q1, hm, hrs]
      exact hno' (fun h => by have := (hr1.1 h).1; omega) _ (subH_self _) _
    have i1 : ¬ (200 : Int) < (l.length : Int) := by omega
    simp only [push_cast, seval, reduceCtorEq, i1, q1, hm, hrs]
    refine useP [_] (fun M0 hr0 he0 => anyOdd_ok hr0 (by omega) (hl.congr he0.symm)) hLM ?_
    cases q2 : (l.any fun k => !k.may)
    case true =>
      simp only [push_cast, seval, reduceCtorEq, q2, i1, q1]
      exact hno' (fun h => by have := (hr1.1 h).2.1; rw [q2] at this; cases this) _ (subH_self _) _
    simp only [push_cast, seval, reduceCtorEq, q2, i1, q1]
    refine useP [_] (fun M0 hr0 he0 => isSortedY_ok hr0.marks (by omega) (hl.congr he0.symm)) hLM ?_
    cases q3 : srtY l
    case false =>
      simp only [push_cast, seval, reduceCtorEq, q3]
      exact hno' (fun h => by have := (hr1.1 h).2.2.1; rw [q3] at this; cases this) _ (subH_self _) _
    simp only [push_cast, seval, reduceCtorEq, q3]
    refine useN [_] (cloneY_W hl hln) (fun _ _ _ _ _ h => h) hm hLM fun u N1 M1 hg hf1 hL1 hw1 hmN hq => ?_
    have hsl := hq.slice
    obtain ⟨pu, ku, rfl⟩ := hsl
    simp only [push_cast, seval, reduceCtorEq, q3]
    refine CallsV.useMs (Hw := N1) (Hf := []) (by rw [List.append_nil]; exact compactY_ok hq hln) (fun e he => ?_) trivial ?_
    · rcases hq with ⟨-, -, -, rfl⟩ | ⟨b, c', -, -, -, rfl⟩
      · cases he
      · rw [List.mem_singleton.1 he]; rfl
    rintro u2 N2 ⟨⟨p', k', m, rfl, hadj⟩, rfl⟩
    refine ⟨trivial, rfl, fun _ => ?_⟩
    have hsM : subH ([] ++ ([⟨b2, 0, .cel 4, [.bool false]⟩] ++ M1)) (⟨b2, 0, .cel 4, [.bool false]⟩ :: M) := subH_pre (subH_gr (N := []) trivial hg) [⟨b2, 0, .cel 4, [.bool false]⟩]
    by_cases q4 : m = l.length
    · have i4 : ((l.length : Int) != (l.length : Int)) = false := bne_self_eq_false _
      simp only [push_cast, seval, reduceCtorEq, q3, q4, i4]
      exact hyes' (hr1.2 ⟨by omega, q2, q3, hadj.1 q4⟩) _ hsM _
    · have i4 : ((m : Int) != (l.length : Int)) = true := by rw [bne_iff_ne]; omega
      simp only [push_cast, seval, reduceCtorEq, q3, i4]
      exact hno' (fun h => q4 (hadj.2 (hr1.1 h).2.2.2)) _ hsM _
  · rintro D r hD ⟨rfl, hk1, hk2⟩
    have e : (pB (rightKs R) && pB (rightKs W')) = true := by rw [pB_t (hk1 (by simp)), pB_t (hk2 (by simp))]; rfl
    rw [e]
    have hD2 : ¬ b2 = D := Ne.symm hD.1
    simp only [push_cast, seval, reduceCtorEq, hD2, hm]
  · rintro D c r hD ⟨rfl, rfl, e⟩
    rw [e]
    have hD2 : ¬ b2 = D := Ne.symm hD.1
    simp only [push_cast, seval, reduceCtorEq, hD2, hm]
theorem aRight_R {M : Hp} {R W' : List Ky} {v : Value} (hv : SeR R W' v M) (hn : R.length ≤ 1000000000) (hn2 : W'.length ≤ 1000000000) : ∀ M0, roM M0 → cellsAt M0 = cellsAt M → CallsV Tryz.prog 68 [v] M0 (Ret0 (.bool (pB (rightKs R) && pB (rightKs W')))) :=
  fun _ hr he => aRight_ok hr (SeR.rd _ _ _ _ _ he.symm hv) hn hn2
end Go.Proofs.YtincedmdkdjakaaGreat
