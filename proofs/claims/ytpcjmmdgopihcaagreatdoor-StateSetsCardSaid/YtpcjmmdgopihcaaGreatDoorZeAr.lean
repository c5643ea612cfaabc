/- Texts of this claim, merged by program: Is. -/
import Derived.Test.YtpcjmmdgopihcaaGreatDoorZeAq
set_option linter.unusedSimpArgs false
set_option linter.unusedVariables false
namespace Go.Proofs.YtpcjmmdgopihcaaGreatDoor
open Go Go.Ev Go.Proofs
set_option maxRecDepth 100000
set_option maxHeartbeats 4000000
theorem list20 {α : Type} {l : List α} (h : l.length = 20) : ∃ x0 x1 x2 x3 x4 x5 x6 x7 x8 x9 x10 x11 x12 x13 x14 x15 x16 x17 x18 x19 : α, l = [x0, x1, x2, x3, x4, x5, x6, x7, x8, x9, x10, x11, x12, x13, x14, x15, x16, x17, x18, x19] := by
  match l, h with
  | [x0, x1, x2, x3, x4, x5, x6, x7, x8, x9, x10, x11, x12, x13, x14, x15, x16, x17, x18, x19], _ => exact ⟨x0, x1, x2, x3, x4, x5, x6, x7, x8, x9, x10, x11, x12, x13, x14, x15, x16, x17, x18, x19, rfl⟩
theorem slots8_R {M : Hp} {raw : List (Int × Int)} {v : Value} {nz : Bool} (hv : PrR M raw v) (hb : ∀ x ∈ raw, i64In x.1 ∧ i64In x.2) (hn : raw.length ≤ 9223372036854775807) : CallsR Tryz.prog 30 [v, .bool nz] M (fun v H => LiR Sl.cells 8 H (slotsL nz (raw.take 20) []) v) := by
  intro M0 hr he
  have hv0 : PrR M0 raw v := by
    obtain ⟨p, c, rfl, h0 | ⟨b, o, rfl, h1⟩⟩ := hv
    · exact ⟨p, c, rfl, .inl h0⟩
    · exact ⟨_, c, rfl, .inr ⟨b, o, rfl, by rw [he]; exact h1⟩⟩
  obtain ⟨Hf, h1, hd⟩ := hv0.h
  have h := (slots_ok (noughts := nz) h1 hb hn).use (K' := fun v H' => ∃ N, H' = N ++ M0 ∧ OutS 67 (slotsL nz (raw.take 20) []) v N) hd (fun v N h => ⟨h.wr.1, h.wr.2, fun _ => ⟨N, rfl, h⟩⟩)
  refine ⟨h.1, fun w0 mu w hs => (h.2 w0 mu w hs).mono ?_⟩
  rintro e w' ⟨v, H', rfl, ⟨N, rfl, ho⟩, hs', hm'⟩
  exact ⟨v, N, rfl, ⟨ho.wr.1, ho.wr.2, fun _ => ho.r⟩, hs'.weak (List.sublist_append_left _ _), by rw [ho.wr.2, hr.marks]⟩
theorem sameA8_P {M : Hp} {x y : Ac} {sx sy : Value} (hx : LiR Sl.cells 8 M x.slots sx) (hy : LiR Sl.cells 8 M y.slots sy) (mx : mayA x = true) (my : mayA y = true) : ∀ M0, roM M0 → cellsAt M0 = cellsAt M → CallsV Tryz.prog 19 [.agg (x.cells sx).toArray, .agg (y.cells sy).toArray] M0 (Ret0 (.bool (decide (x = y)))) :=
  fun M0 hr he => sameAc_ok (hx.congr he.symm) (hy.congr he.symm) hr.marks (by have := (mayA_slots mx).len; omega) (by have := (mayA_slots my).len; omega)
def plSets : Plans := fun i => if i = 3 then [] else if i = 4 then [(0, 9)] else if i = 6 then [(0, 9)] else if i = 8 then [] else if i = 14 then [] else Tryz.pl5 i
attribute [push_cast] plSets
theorem stateSets_ok {M : Hp} {s : List R4} {n : R4} {raw : List (Int × Int)} {v u : Value} (hk : KonR M) (hm : marksOf M = []) (hv : LiR R4.cells 4 M s v) (is : ∀ r ∈ s, r.In) (in_ : n.In) (hu : PrR M raw u) (hb : ∀ x ∈ raw, i64In x.1 ∧ i64In x.2) (hn : raw.length ≤ 9223372036854775807) : CallsV Tryz.prog 5 [v, n.v, u] M (Ret0 (.bool true)) := by
  have hf := stateR_few s
  have hst := state_ok hv is
  obtain ⟨S, hS⟩ : ∃ S, S = stateR s := ⟨_, rfl⟩
  rw [← hS] at hf hst
  obtain ⟨SL, hSL⟩ : ∃ SL, SL = slotsL false (raw.take 20) [] := ⟨_, rfl⟩
  have hri := slotsL_ri raw
  rw [← hSL] at hri
  obtain ⟨na, nb, nc, nd⟩ := n
  obtain ⟨ia, ib, ic, id_⟩ := in_
  dsimp only at ia ib ic id_
  have j5 : i64In 5 := by decide
  have j3 : i64In 3 := by decide
  have pb := pickN_lt nb (show (0 : Int) < 5 by decide)
  have pc := pickN_lt nc (show (0 : Int) < 3 by decide)
  have pd := pickN_lt nd (show (0 : Int) < 3 by decide)
  obtain ⟨xb, hxb⟩ : ∃ x, x = pickN nb 5 := ⟨_, rfl⟩
  obtain ⟨xc, hxc⟩ : ∃ x, x = pickN nc 3 := ⟨_, rfl⟩
  obtain ⟨xd, hxd⟩ : ∃ x, x = pickN nd 3 := ⟨_, rfl⟩
  rw [← hxb] at pb
  rw [← hxc] at pc
  rw [← hxd] at pd
  have jb : i64In (xb : Int) := ⟨by omega, by omega⟩
  obtain ⟨A, hA⟩ : ∃ A, A = addrA na := ⟨_, rfl⟩
  obtain ⟨B, hB⟩ : ∃ B, B = W.ofInt (xb : Int) := ⟨_, rfl⟩
  obtain ⟨ps, ks, rfl⟩ := hv.slice
  obtain ⟨pu, ku, rfl, -⟩ := id hu
  have hrc : R4.v ⟨na, nb, nc, nd⟩ = .agg #[.int .i64 na, .int .i64 nb, .int .i64 nc, .int .i64 nd] := rfl
  have hsr := slots8_R (nz := false) hu hb hn
  rw [← hSL] at hsr
  refine callsO gV2_ok Tryz.mix plSets Tryz.func5 rfl Tryz.ntmps5 Tryz.results5 rfl (by first | rfl | assumption) (Nat.le_of_ble_eq_true rfl) (by kernel_rfl) ?_
  simp only [push_cast, seval, reduceCtorEq, hrc]
  intro b4 hb4
  refine useP [_] (awk08_P hk) ⟨hb4, trivial⟩ ?_
  simp only [push_cast, seval, reduceCtorEq]
  refine useL [_] hst (StR.rd _) hm ⟨hb4, trivial⟩ fun w M1 hg1 hL1 hq1 => ?_
  obtain ⟨p1, k1, rfl⟩ := hq1.slice
  simp only [push_cast, seval, reduceCtorEq]
  obtain ⟨f4, -⟩ := id hL1
  have hsr1 : CallsR Tryz.prog 30 [.slice pu raw.length ku, .bool false] M1 (fun v H => LiR Sl.cells 8 H SL v) := by
    have := slots8_R (nz := false) (hg1.ext.pr hu) hb hn
    rw [← hSL] at this
    exact this
  have hL4 : freshN [⟨b4, 0, .cel 34, [.int .i64 na, .int .i64 nb, .int .i64 nc, .int .i64 nd]⟩] M1 := ⟨f4, trivial⟩
  have fB4 : findE (⟨b4, 0, .cel 34, [.int .i64 na, .int .i64 nb, .int .i64 nc, .int .i64 nd]⟩ :: M1) b4 = some ⟨b4, 0, .cel 34, [.int .i64 na, .int .i64 nb, .int .i64 nc, .int .i64 nd]⟩ := by simp only [push_cast, seval, reduceCtorEq]
  have hz27 : ((emptyAt Ad.zero).cells (.slice none 0 0)).length = 27 := rfl
  have hx27 : ∀ sv, ((⟨A, B, (xc : Int), .empty, SL⟩ : Ac).cells sv).length = 27 := fun sv => acC_len (_, sv)
  have hxall : ∀ p n k, ((⟨A, B, (xc : Int), .empty, SL⟩ : Ac).cells (.slice p n k)).all oneC = true := fun p n k => Ac.all1 _ _ rfl
  obtain ⟨x0,x1,x2,x3,x4,x5,x6,x7,x8,x9,x10,x11,x12,x13,x14,x15,x16,x17,x18,x19, hAc⟩ : ∃ x0 x1 x2 x3 x4 x5 x6 x7 x8 x9 x10 x11 x12 x13 x14 x15 x16 x17 x18 x19, A.cells = [x0, x1, x2, x3, x4, x5, x6, x7, x8, x9, x10, x11, x12, x13, x14, x15, x16, x17, x18, x19] := list20 A.len
  have B4l : B.cells.length = 4 := rfl
  refine drawS gV2_ok Tryz.mix [(2, .slice pu raw.length ku), (4, .pointer (some ⟨b4, 0, none⟩)), (7, .bool true), (8, .slice p1 S.length k1)]
      (fun i val => match i with
        | 0 => val 0 = .pointer (some ⟨b4, 0, none⟩)
        | 1 => val 1 = .int .i64 na
        | 2 => val 2 = A.v
        | 3 => val 3 = .pointer (some ⟨b4, 1, none⟩)
        | 4 => val 4 = .int .i64 nb
        | 5 => val 5 = .int .i64 (xb : Int)
        | 6 => val 6 = B.v
        | 7 => val 7 = .pointer (some ⟨b4, 2, none⟩)
        | 8 => val 8 = .int .i64 nc
        | 9 => val 9 = .int .i64 (xc : Int)
        | 10 => val 10 = .slice pu raw.length ku
        | 11 => ∃ p k, val 11 = .slice p SL.length k
        | 12 => ∃ p k, val 11 = .slice p SL.length k ∧ val 12 = .agg ((⟨A, B, (xc : Int), .empty, SL⟩ : Ac).cells (val 11)).toArray
        | 13 => ∃ b, val 13 = .pointer (some ⟨b, 0, none⟩)
        | _ => True)
      (fun i val N => match i with
        | 11 => allWr N ∧ marksOf N = [] ∧ LiR Sl.cells 8 (N ++ M1) SL (val 11)
        | 12 => N = []
        | 13 => ∃ b, val 13 = .pointer (some ⟨b, 0, none⟩) ∧ N = [⟨b, 0, .cel 31, (emptyAt Ad.zero).cells (.slice none 0 0)⟩]
        | 14 => ∃ b p k, val 13 = .pointer (some ⟨b, 0, none⟩) ∧ val 11 = .slice p SL.length k ∧ N = [⟨b, 0, .cel 31, (⟨A, B, (xc : Int), .empty, SL⟩ : Ac).cells (val 11)⟩]
        | _ => N = []) (fun i => if i = 14 then [13] else []) [11, 14] (by kernel_rfl) (by kernel_rfl) (by kernel_rfl) ?_ (by rfl) (by decide) (by kernel_rfl) ?_ ?_ ?_ ?_ ?_
  · simp only [push_cast, seval, reduceCtorEq, subT]
  · intro i hi hiF
    replace hi : i < 15 := hi
    obtain rfl | rfl | rfl | rfl | rfl | rfl | rfl | rfl | rfl | rfl | rfl | rfl | rfl | rfl | rfl : i = 0 ∨ i = 1 ∨ i = 2 ∨ i = 3 ∨ i = 4 ∨ i = 5 ∨ i = 6 ∨ i = 7 ∨ i = 8 ∨ i = 9 ∨ i = 10 ∨ i = 11 ∨ i = 12 ∨ i = 13 ∨ i = 14 := by omega
    all_goals first
      | exact .inl fun _ _ h => h
      | exact absurd (by decide) hiF
      | exact .inr (by kernel_rfl)
  · intro i o ho val val' h1 h2 hV
    have hi := (Array.getElem?_eq_some_iff.1 ho).1
    replace hi : i < 15 := hi
    obtain rfl | rfl | rfl | rfl | rfl | rfl | rfl | rfl | rfl | rfl | rfl | rfl | rfl | rfl | rfl : i = 0 ∨ i = 1 ∨ i = 2 ∨ i = 3 ∨ i = 4 ∨ i = 5 ∨ i = 6 ∨ i = 7 ∨ i = 8 ∨ i = 9 ∨ i = 10 ∨ i = 11 ∨ i = 12 ∨ i = 13 ∨ i = 14 := by omega
    · first
        | exact trivial
        | exact hV
        | exact h1.trans hV
        | (rw [h1]; exact hV)
    · first
        | exact trivial
        | exact hV
        | exact h1.trans hV
        | (rw [h1]; exact hV)
    · first
        | exact trivial
        | exact hV
        | exact h1.trans hV
        | (rw [h1]; exact hV)
    · first
        | exact trivial
        | exact hV
        | exact h1.trans hV
        | (rw [h1]; exact hV)
    · first
        | exact trivial
        | exact hV
        | exact h1.trans hV
        | (rw [h1]; exact hV)
    · first
        | exact trivial
        | exact hV
        | exact h1.trans hV
        | (rw [h1]; exact hV)
    · first
        | exact trivial
        | exact hV
        | exact h1.trans hV
        | (rw [h1]; exact hV)
    · first
        | exact trivial
        | exact hV
        | exact h1.trans hV
        | (rw [h1]; exact hV)
    · first
        | exact trivial
        | exact hV
        | exact h1.trans hV
        | (rw [h1]; exact hV)
    · first
        | exact trivial
        | exact hV
        | exact h1.trans hV
        | (rw [h1]; exact hV)
    · first
        | exact trivial
        | exact hV
        | exact h1.trans hV
        | (rw [h1]; exact hV)
    · simp only [List.getElem?_toArray, List.getElem?_cons_zero, List.getElem?_cons_succ, Option.some.injEq] at ho; subst ho
      obtain ⟨p, k, a1⟩ := hV
      exact ⟨p, k, by rw [h1]; exact a1⟩
    · simp only [List.getElem?_toArray, List.getElem?_cons_zero, List.getElem?_cons_succ, Option.some.injEq] at ho; subst ho
      have h6 := h2 11 (by kernel_rfl)
      obtain ⟨p, k, a1, a2⟩ := hV
      exact ⟨p, k, by rw [h6]; exact a1, by rw [h1, h6]; exact a2⟩
    · first
        | exact trivial
        | exact hV
        | exact h1.trans hV
        | (rw [h1]; exact hV)
    · first
        | exact trivial
        | exact hV
        | exact h1.trans hV
        | (rw [h1]; exact hV)
  · intro i o ho val val' N h1 h2 hQ
    have hi := (Array.getElem?_eq_some_iff.1 ho).1
    replace hi : i < 15 := hi
    obtain rfl | rfl | rfl | rfl | rfl | rfl | rfl | rfl | rfl | rfl | rfl | rfl | rfl | rfl | rfl : i = 0 ∨ i = 1 ∨ i = 2 ∨ i = 3 ∨ i = 4 ∨ i = 5 ∨ i = 6 ∨ i = 7 ∨ i = 8 ∨ i = 9 ∨ i = 10 ∨ i = 11 ∨ i = 12 ∨ i = 13 ∨ i = 14 := by omega
    · first
        | exact trivial
        | exact hQ
        | exact h1.trans hQ
        | (rw [h1]; exact hQ)
    · first
        | exact trivial
        | exact hQ
        | exact h1.trans hQ
        | (rw [h1]; exact hQ)
    · first
        | exact trivial
        | exact hQ
        | exact h1.trans hQ
        | (rw [h1]; exact hQ)
    · first
        | exact trivial
        | exact hQ
        | exact h1.trans hQ
        | (rw [h1]; exact hQ)
    · first
        | exact trivial
        | exact hQ
        | exact h1.trans hQ
        | (rw [h1]; exact hQ)
    · first
        | exact trivial
        | exact hQ
        | exact h1.trans hQ
        | (rw [h1]; exact hQ)
    · first
        | exact trivial
        | exact hQ
        | exact h1.trans hQ
        | (rw [h1]; exact hQ)
    · first
        | exact trivial
        | exact hQ
        | exact h1.trans hQ
        | (rw [h1]; exact hQ)
    · first
        | exact trivial
        | exact hQ
        | exact h1.trans hQ
        | (rw [h1]; exact hQ)
    · first
        | exact trivial
        | exact hQ
        | exact h1.trans hQ
        | (rw [h1]; exact hQ)
    · first
        | exact trivial
        | exact hQ
        | exact h1.trans hQ
        | (rw [h1]; exact hQ)
    · simp only [List.getElem?_toArray, List.getElem?_cons_zero, List.getElem?_cons_succ, Option.some.injEq] at ho; subst ho
      rw [h1]; exact hQ
    · first
        | exact trivial
        | exact hQ
        | exact h1.trans hQ
        | (rw [h1]; exact hQ)
    · first
        | exact trivial
        | exact hQ
        | exact h1.trans hQ
        | (rw [h1]; exact hQ)
    · simp only [List.getElem?_toArray, List.getElem?_cons_zero, List.getElem?_cons_succ, Option.some.injEq] at ho; subst ho
      have h10 := h2 13 (by kernel_rfl)
      have h11 := h2 11 (by kernel_rfl)
      obtain ⟨b, p, k, a1, a2, a3⟩ := hQ
      exact ⟨b, p, k, by rw [h10]; exact a1, by rw [h11]; exact a2, by rw [h11]; exact a3⟩
  · intro i o ho T' Y val mem hT hdep hus hfr hY hmY hapY
    have hi := (Array.getElem?_eq_some_iff.1 ho).1
    replace hi : i < 15 := hi
    have y4 := hY _ _ fB4
    have hM0Y : ∀ b e, findE M1 b = some e → findE Y b = some e := fun b e h => hY b e (find_behind hL4 b e h)
    have t2 : getT T' 2 = some (.slice pu raw.length ku) := hT.1
    have t4 : getT T' 4 = some (.pointer (some ⟨b4, 0, none⟩)) := hT.2.1
    obtain rfl | rfl | rfl | rfl | rfl | rfl | rfl | rfl | rfl | rfl | rfl | rfl | rfl | rfl | rfl : i = 0 ∨ i = 1 ∨ i = 2 ∨ i = 3 ∨ i = 4 ∨ i = 5 ∨ i = 6 ∨ i = 7 ∨ i = 8 ∨ i = 9 ∨ i = 10 ∨ i = 11 ∨ i = 12 ∨ i = 13 ∨ i = 14 := by omega
    · simp only [List.getElem?_toArray, List.getElem?_cons_zero, List.getElem?_cons_succ, Option.some.injEq] at ho; subst ho
      simp only [push_cast, seval, reduceCtorEq, List.flatMap_nil, List.flatMap_cons, List.append_nil, List.nil_append, t4]
      exact ⟨[], rfl, trivial, rfl, upd_self _ _ _, rfl⟩
    · simp only [List.getElem?_toArray, List.getElem?_cons_zero, List.getElem?_cons_succ, Option.some.injEq] at ho; subst ho
      obtain ⟨v0, g0⟩ := hdep 0 (by kernel_rfl)
      replace g0 := g0 19 rfl
      rw [show val 0 = _ from v0] at g0
      simp only [push_cast, seval, reduceCtorEq, List.flatMap_nil, List.flatMap_cons, List.append_nil, List.nil_append, g0, y4]
      exact ⟨[], rfl, trivial, rfl, upd_self _ _ _, rfl⟩
    · simp only [List.getElem?_toArray, List.getElem?_cons_zero, List.getElem?_cons_succ, Option.some.injEq] at ho; subst ho
      obtain ⟨v1, g1⟩ := hdep 1 (by kernel_rfl)
      replace g1 := g1 20 rfl
      rw [show val 1 = _ from v1] at g1
      simp only [push_cast, seval, reduceCtorEq, List.flatMap_nil, List.flatMap_cons, List.append_nil, List.nil_append, g1, ia, ← hA]
      exact ⟨[], rfl, trivial, rfl, upd_self _ _ _, rfl⟩
    · simp only [List.getElem?_toArray, List.getElem?_cons_zero, List.getElem?_cons_succ, Option.some.injEq] at ho; subst ho
      simp only [push_cast, seval, reduceCtorEq, List.flatMap_nil, List.flatMap_cons, List.append_nil, List.nil_append, t4]
      exact ⟨[], rfl, trivial, rfl, upd_self _ _ _, rfl⟩
    · simp only [List.getElem?_toArray, List.getElem?_cons_zero, List.getElem?_cons_succ, Option.some.injEq] at ho; subst ho
      obtain ⟨v3, g3⟩ := hdep 3 (by kernel_rfl)
      replace g3 := g3 22 rfl
      rw [show val 3 = _ from v3] at g3
      simp only [push_cast, seval, reduceCtorEq, List.flatMap_nil, List.flatMap_cons, List.append_nil, List.nil_append, g3, y4]
      exact ⟨[], rfl, trivial, rfl, upd_self _ _ _, rfl⟩
    · simp only [List.getElem?_toArray, List.getElem?_cons_zero, List.getElem?_cons_succ, Option.some.injEq] at ho; subst ho
      obtain ⟨v4, g4⟩ := hdep 4 (by kernel_rfl)
      replace g4 := g4 23 rfl
      rw [show val 4 = _ from v4] at g4
      simp only [push_cast, seval, reduceCtorEq, List.flatMap_nil, List.flatMap_cons, List.append_nil, List.nil_append, g4, ib, j5, ← hxb]
      exact ⟨[], rfl, trivial, rfl, upd_self _ _ _, rfl⟩
    · simp only [List.getElem?_toArray, List.getElem?_cons_zero, List.getElem?_cons_succ, Option.some.injEq] at ho; subst ho
      obtain ⟨v5, g5⟩ := hdep 5 (by kernel_rfl)
      replace g5 := g5 24 rfl
      rw [show val 5 = _ from v5] at g5
      simp only [push_cast, seval, reduceCtorEq, List.flatMap_nil, List.flatMap_cons, List.append_nil, List.nil_append, g5, jb.1, jb.2, ← hB]
      exact ⟨[], rfl, trivial, rfl, upd_self _ _ _, rfl⟩
    · simp only [List.getElem?_toArray, List.getElem?_cons_zero, List.getElem?_cons_succ, Option.some.injEq] at ho; subst ho
      simp only [push_cast, seval, reduceCtorEq, List.flatMap_nil, List.flatMap_cons, List.append_nil, List.nil_append, t4]
      exact ⟨[], rfl, trivial, rfl, upd_self _ _ _, rfl⟩
    · simp only [List.getElem?_toArray, List.getElem?_cons_zero, List.getElem?_cons_succ, Option.some.injEq] at ho; subst ho
      obtain ⟨v7, g7⟩ := hdep 7 (by kernel_rfl)
      replace g7 := g7 26 rfl
      rw [show val 7 = _ from v7] at g7
      simp only [push_cast, seval, reduceCtorEq, List.flatMap_nil, List.flatMap_cons, List.append_nil, List.nil_append, g7, y4]
      exact ⟨[], rfl, trivial, rfl, upd_self _ _ _, rfl⟩
    · simp only [List.getElem?_toArray, List.getElem?_cons_zero, List.getElem?_cons_succ, Option.some.injEq] at ho; subst ho
      obtain ⟨v8, g8⟩ := hdep 8 (by kernel_rfl)
      replace g8 := g8 27 rfl
      rw [show val 8 = _ from v8] at g8
      simp only [push_cast, seval, reduceCtorEq, List.flatMap_nil, List.flatMap_cons, List.append_nil, List.nil_append, g8, ic, j3, ← hxc]
      exact ⟨[], rfl, trivial, rfl, upd_self _ _ _, rfl⟩
    · simp only [List.getElem?_toArray, List.getElem?_cons_zero, List.getElem?_cons_succ, Option.some.injEq] at ho; subst ho
      simp only [push_cast, seval, reduceCtorEq, List.flatMap_nil, List.flatMap_cons, List.append_nil, List.nil_append, t2]
      exact ⟨[], rfl, trivial, rfl, upd_self _ _ _, rfl⟩
    · simp only [List.getElem?_toArray, List.getElem?_cons_zero, List.getElem?_cons_succ, Option.some.injEq] at ho; subst ho
      obtain ⟨v10, g10⟩ := hdep 10 (by kernel_rfl)
      replace g10 := g10 29 rfl
      rw [show val 10 = _ from v10] at g10
      simp only [push_cast, seval, reduceCtorEq, List.flatMap_nil, List.flatMap_cons, List.append_nil, List.nil_append, g10]
      refine callS (M := M1) hsr1 (LiR.rd _) hM0Y fun w N hw hm1 hf hq => ⟨N, rfl, hw, hm1, ?_, ?_⟩
      · obtain ⟨p1, k1, rfl⟩ := hq.slice
        exact ⟨p1, k1, by rw [upd_self]⟩
      · rw [upd_self]; exact ⟨hw, hm1, hq⟩
    · simp only [List.getElem?_toArray, List.getElem?_cons_zero, List.getElem?_cons_succ, Option.some.injEq] at ho; subst ho
      obtain ⟨v2, g2⟩ := hdep 2 (by kernel_rfl)
      replace g2 := g2 21 rfl
      rw [show val 2 = _ from v2] at g2
      obtain ⟨v6, g6⟩ := hdep 6 (by kernel_rfl)
      replace g6 := g6 25 rfl
      rw [show val 6 = _ from v6] at g6
      obtain ⟨v9, g9⟩ := hdep 9 (by kernel_rfl)
      replace g9 := g9 28 rfl
      rw [show val 9 = _ from v9] at g9
      obtain ⟨v11, g11⟩ := hdep 11 (by kernel_rfl)
      replace g11 := g11 30 rfl
      obtain ⟨p, k, v11⟩ := v11
      have v11 : val 11 = _ := v11
      rw [v11] at g11
      simp only [push_cast, seval, reduceCtorEq, List.flatMap_nil, List.flatMap_cons, List.append_nil, List.nil_append, g2, g6, g9, g11, hAc, B4l]
      refine ⟨[], rfl, trivial, rfl, ⟨p, k, ?_, ?_⟩, rfl⟩
      · simp [upd, v11]
      · simp only [upd, v11]; unfold Ac.cells; rw [hAc]; rfl
    · simp only [List.getElem?_toArray, List.getElem?_cons_zero, List.getElem?_cons_succ, Option.some.injEq] at ho; subst ho
      simp only [push_cast, seval, reduceCtorEq, List.flatMap_nil, List.flatMap_cons, List.append_nil, List.nil_append]
      intro b hf
      exact ⟨[_], rfl, ⟨trivial, trivial⟩, rfl, ⟨b, upd_self _ _ _⟩, b, upd_self _ _ _, rfl⟩
    · simp only [List.getElem?_toArray, List.getElem?_cons_zero, List.getElem?_cons_succ, Option.some.injEq] at ho; subst ho
      obtain ⟨v12, g12⟩ := hdep 12 (by kernel_rfl)
      replace g12 := g12 31 rfl
      obtain ⟨v13, g13⟩ := hdep 13 (by kernel_rfl)
      replace g13 := g13 9 rfl
      obtain ⟨p, k, v11, v12⟩ := v12
      have v11 : val 11 = _ := v11
      have v12 : val 12 = _ := v12
      rw [v12, v11] at g12
      obtain ⟨b9, v13, hN⟩ := hus 13 (List.mem_singleton.2 rfl)
      have v13 : val 13 = _ := v13
      rw [v13] at g13
      simp only [push_cast, seval, reduceCtorEq, List.flatMap_nil, List.flatMap_cons, List.append_nil, List.nil_append, g12, g13, hN, List.cons_append, hz27, hx27, hxall]
      refine ⟨[_], rfl, ⟨trivial, trivial⟩, rfl, b9, p, k, ?_, ?_, ?_⟩
      · simp [upd, v13]
      · simp [upd, v11]
      · simp [upd, v11]
  · intro val mem hV hQ hap hwr
    obtain ⟨w11, m11, hq11⟩ := hQ 11 (by decide)
    obtain ⟨b9, p, k, v13, v11, hN14⟩ := hQ 14 (by decide)
    have v13 : val 13 = _ := v13
    have v11 : val 11 = _ := v11
    rw [v11] at hN14 hq11
    have hMM : List.flatMap mem [11, 14] ++ (⟨b4, 0, .cel 34, [.int .i64 na, .int .i64 nb, .int .i64 nc, .int .i64 nd]⟩ :: M1) = mem 11 ++ (⟨b9, 0, .cel 31, (⟨A, B, (xc : Int), .empty, SL⟩ : Ac).cells (.slice p SL.length k)⟩ :: ⟨b4, 0, .cel 34, [.int .i64 na, .int .i64 nb, .int .i64 nc, .int .i64 nd]⟩ :: M1) := by
      simp only [List.flatMap_cons, List.flatMap_nil, List.append_nil, hN14, List.append_assoc, List.cons_append, List.nil_append]
    rw [hMM] at hap ⊢
    have a5 := freshN_apart hap w11
    have hap' := (List.pairwise_append.1 hap).2.1
    have a7 := freshN_apart (A := [⟨b9, 0, .cel 31, (⟨A, B, (xc : Int), .empty, SL⟩ : Ac).cells (.slice p SL.length k)⟩]) hap' ⟨trivial, trivial⟩
    have q57 := freshN_sym a5
    have hb9 := a7.1
    simp only [push_cast, seval, reduceCtorEq] at hb9
    have f9 : fresh b9 (M1 ++ mem 11) := fresh_app_iff.2 ⟨hb9.2.2, q57.1⟩
    have f4 : fresh b4 (M1 ++ mem 11) := fresh_app_iff.2 ⟨f4, q57.2.1⟩
    have hg2 : Gr M1 (M1 ++ mem 11) := ⟨hg1.marks, mem 11, rfl, w11, m11⟩
    have hsl : LiR Sl.cells 8 (M1 ++ mem 11) SL (.slice p SL.length k) := hq11.congr (cellsAt_swap (freshN_cons (freshN_cons a5)))
    have hq1 := hq1.ext hg2.ext
    simp only [push_cast, seval, reduceCtorEq, v13]
    refine WpV.perm (H' := ⟨b9, 0, .cel 31, (⟨A, B, (xc : Int), .empty, SL⟩ : Ac).cells (.slice p SL.length k)⟩ :: ⟨b4, 0, .cel 34, [.int .i64 na, .int .i64 nb, .int .i64 nc, .int .i64 nd]⟩ :: (M1 ++ mem 11)) ?_ ?_ ?_
    · exact List.perm_append_comm
    · simp [marks_append, marksOf, m11, hg1.marks]
    refine WpV.slots [(4, .pointer (some ⟨b4, 0, none⟩)), (7, .bool true), (8, .slice p1 S.length k1), (9, .pointer (some ⟨b9, 0, none⟩))] (by simp only [push_cast, seval, reduceCtorEq]) ?_
    generalize M1 ++ mem 11 = M2 at hg2 hsl hq1 f9 f4 ⊢
    have hEA : [x0, x1, x2, x3, x4, x5, x6, x7, x8, x9, x10, x11, x12, x13, x14, x15, x16, x17, x18, x19, .int .u64 0, .int .u64 0, .int .u64 0, .int .u64 0, .int .i64 0, .string .empty, .slice none 0 0] = (emptyAt A).cells (.slice none 0 0) := by
      show _ = A.cells ++ _
      rw [hAc]; rfl
    have hze : ((emptyAt A).cells (.slice none 0 0)).length = 27 := acC_len (emptyAt A, .slice none 0 0)
    have hzal : ((emptyAt A).cells (.slice none 0 0)).all oneC = true := Ac.all1 (emptyAt A) (.slice none 0 0) rfl
    refine regO gV2_ok ?_
    by_cases hd0 : xd = 0
    case' pos =>
      have xd0 : ((xd : Int) == 0) = true := by rw [hd0]; rfl
      obtain ⟨Y, hYd⟩ : ∃ Y, Y = emptyAt A := ⟨_, rfl⟩
      have hYl : LiR Sl.cells 8 M2 Y.slots (.slice none 0 0) := by rw [hYd]; exact LiR.nil _ 0
      have mY : mayA Y = true := by rw [hYd]; exact emptyAt_may A
      have aY : Y.at_ = A := by rw [hYd]; rfl
      simp only [push_cast, seval, reduceCtorEq, id_, j3, ← hxd, hb9, xd0, ia, ← hA, hAc, hEA, hx27, hze, hzal]
      rw [← hYd]
      obtain ⟨zv, hzv⟩ : ∃ zv, zv = Value.slice none 0 0 := ⟨_, rfl⟩
      rw [← hzv] at hYl ⊢
    case' neg =>
      have xd0 : ((xd : Int) == 0) = false := by rw [beq_eq_false_iff_ne]; omega
      obtain ⟨Y, hYd⟩ : ∃ Y, Y = (⟨A, B, (xc : Int), .empty, SL⟩ : Ac) := ⟨_, rfl⟩
      have hYl : LiR Sl.cells 8 M2 Y.slots (.slice p SL.length k) := by rw [hYd]; exact hsl
      have mY : mayA Y = true := by
        rw [hYd]
        unfold mayA
        rw [rightB_iff.2 hri, decide_eq_true (show (0 : Int) ≤ (xc : Int) by omega), decide_eq_true (show (xc : Int) ≤ 9007199254740992 by omega)]
        rfl
      have aY : Y.at_ = A := by rw [hYd]
      simp only [push_cast, seval, reduceCtorEq, id_, j3, ← hxd, hb9, xd0]
      rw [← hYd]
      obtain ⟨zv, hzv⟩ : ∃ zv, zv = Value.slice p SL.length k := ⟨_, rfl⟩
      rw [← hzv] at hYl ⊢
    all_goals
      have hSl := hf.len
      have hpl := putS_len S Y
      have rT : RiS (putS S Y) := hf.ri.put mY (by omega)
      have hT1 : setS S Y = (putS S Y, 0) := setS_val (setS_ok.2 ⟨rightS_iff.2 hf.ri, mY, by omega⟩)
      have hpp : putS (putS S Y) Y = putS S Y := putS_put rfl
      have hT2 : setS (putS S Y) Y = (putS S Y, 0) := by
        rw [setS_val (setS_ok.2 ⟨rightS_iff.2 rT, mY, by rw [hpp]; omega⟩), hpp]
      have hfp := hf.ri.find_put Y
      have rS := hf.ri
      obtain ⟨T, hTd⟩ : ∃ T, T = putS S Y := ⟨_, rfl⟩
      rw [← hTd] at hT1 hT2 rT hfp hpl
      refine regO gV2_ok ?_
      simp only [push_cast, seval, reduceCtorEq, hb9]
      refine useL [_, _] (sset_R (x := Y) hq1 hYl (by omega)) (SetR.rd _) hg2.marks ⟨f9, f4, trivial⟩ fun w M3 hg3 hL3 hq3 => ?_
      rw [hT1] at hq3
      obtain ⟨t, rfl, ht⟩ := hq3
      have ht : StR T t M3 := ht
      obtain ⟨pt, kt, rfl⟩ := ht.slice
      have hq1 := hq1.ext hg3.ext
      have hYl := hYl.ext hg3.ext
      obtain ⟨f9, f4, -⟩ := id hL3
      simp only [push_cast, seval, reduceCtorEq, hb9]
      refine useL [_, _] (sset_R (x := Y) ht hYl (by omega)) (SetR.rd _) hg3.marks ⟨f9, f4, trivial⟩ fun w M4 hg4 hL4' hq4 => ?_
      rw [hT2] at hq4
      obtain ⟨t, rfl, ht2⟩ := hq4
      have ht2 : StR T t M4 := ht2
      obtain ⟨pa, ka, rfl⟩ := ht2.slice
      have hq1 := hq1.ext hg4.ext
      have hYl := hYl.ext hg4.ext
      have ht := ht.ext hg4.ext
      obtain ⟨f9, f4, -⟩ := id hL4'
      simp only [push_cast, seval, reduceCtorEq, hb9]
      refine drawO gV2_ok Tryz.mix (Tryz.pl5 8) (by kernel_rfl) ?_
      simp only [push_cast, seval, reduceCtorEq, hb9]
      have y27 : ∀ sv, (Y.cells sv).length = 27 := fun sv => acC_len (Y, sv)
      have y20 : ∀ sv, List.take 20 (Y.cells sv) = Y.at_.cells := fun sv => (Ac.get Y sv).1
      have yl27 : ∀ sv, List.take 27 (Y.cells sv) = Y.cells sv := fun sv => List.take_of_length_le (Nat.le_of_eq (y27 sv))
      refine takeP8 [_, _] (v := .bool true) (sright_P ht rT) ⟨f9, f4, trivial⟩ ?_
      simp only [push_cast, seval, reduceCtorEq, hb9]
      refine takeP8 [_, _] (v := .bool true) (fun MB hr he => by have := sameS8_R rT rT ht ht2 MB hr he; rw [decide_eq_true rfl] at this; exact this) ⟨f9, f4, trivial⟩ ?_
      simp only [push_cast, seval, reduceCtorEq, hb9, y27, y20, yl27]
      refine useL [_, _] (sfind_ok (a := Y.at_) ht (by omega) rT.slN) (AcR.rd _) hg4.marks ⟨f9, f4, trivial⟩ fun w M5 hg5 hL5 hq5 => ?_
      rw [hfp, if_pos rfl] at hq5
      obtain ⟨sv5, rfl, hsv5⟩ := hq5
      have hq1 := hq1.ext hg5.ext
      have hYl := hYl.ext hg5.ext
      have ht := ht.ext hg5.ext
      obtain ⟨f9, f4, -⟩ := id hL5
      simp only [push_cast, seval, reduceCtorEq, hb9]
      refine ⟨subH_gr (N := []) trivial hg5, ?_⟩
      refine takeP8 [_, _] (v := .bool true) (fun MB hr he => by have := sameA8_P hsv5 hYl mY mY MB hr he; rw [decide_eq_true rfl] at this; exact this) ⟨f9, f4, trivial⟩ ?_
      simp only [push_cast, seval, reduceCtorEq, hb9]
      refine loopO gV2_ok (pl := plSets) Tryz.mix (X := {x : Nat × Hp // Gr M5 x.2 ∧ fresh b9 x.2 ∧ fresh b4 x.2})
        (fun x => ([(7, .bool true), (8, .slice p1 S.length k1), (9, .pointer (some ⟨b9, 0, none⟩)), (10, .slice pt T.length kt), (14, .int .i64 x.1.1)], ⟨b9, 0, .cel 31, Y.cells zv⟩ :: ⟨b4, 0, .cel 34, [.int .i64 na, .int .i64 nb, .int .i64 nc, .int .i64 nd]⟩ :: x.1.2))
        (fun x => x.1.1 ≤ 9) (fun x => 9 - x.1.1) ⟨(0, M5), Gr.refl hg5.marks, f9, f4⟩ (Nat.zero_le _) ?_ (by kernel_rfl) ?_
      · simp only [push_cast, seval, reduceCtorEq, hb9]
      · rintro ⟨⟨i, M6⟩, hg6, f9, f4⟩ hi
        dsimp only at hi hg6 f9 f4 ⊢
        have hq1 := hq1.ext hg6.ext
        have hYl := hYl.ext hg6.ext
        have ht := ht.ext hg6.ext
        rcases Nat.lt_or_ge i 9 with hi9 | hi9
        · have i1 : (i : Int) < 9 := by omega
          have ji : i64In (i : Int) := ⟨by omega, by omega⟩
          obtain ⟨D, hD⟩ : ∃ D, D = addrA (i : Int) := ⟨_, rfl⟩
          have d20 : List.take 20 D.cells = D.cells := List.take_of_length_le (Nat.le_of_eq D.len)
          have dl := D.len
          have dal : D.cells.all oneC = true := D.all1
          simp only [push_cast, seval, reduceCtorEq, hb9, i1, hi9, ji, ← hD, d20, dl, dal]
          intro b15 hb15
          have f15 : fresh b15 M6 := hb15.2.2.2.2
          refine drawO gV2_ok Tryz.mix (Tryz.pl5 14) (by kernel_rfl) ?_
          by_cases ha : D = Y.at_
          · simp only [push_cast, seval, reduceCtorEq, hb9, hb15, y27, y20, d20, dl, decide_eq_true ha, wrap_i64' (show -9223372036854775808 ≤ (i : Int) + 1 ∧ (i : Int) + 1 ≤ 9223372036854775807 by omega)]
            exact ⟨⟨(i + 1, M6), hg6, f9, f4⟩, hi9, by dsimp only; omega, rfl, subH_cons f15, rfl⟩
          · simp only [push_cast, seval, reduceCtorEq, hb9, hb15, y27, y20, d20, dl, decide_eq_false ha]
            refine useL [_, _, _] (sfind_ok (a := D) ht (by omega) rT.slN) (AcR.rd _) hg6.marks ⟨f15, f9, f4, trivial⟩ fun w M7 hg7 hL7 hq7 => ?_
            rw [hfp, if_neg ha] at hq7
            obtain ⟨sv7, rfl, hsv7⟩ := hq7
            have hq1 := hq1.ext hg7.ext
            obtain ⟨f15, f9, f4, -⟩ := id hL7
            simp only [push_cast, seval, reduceCtorEq, hb9, hb15]
            refine ⟨subH_gr (N := []) trivial hg7, ?_⟩
            refine useL [_, _, _] (refFind_ok (a := D) hq1 (by omega) rS.slN) (AcR.rd _) hg7.marks ⟨f15, f9, f4, trivial⟩ fun w M8 hg8 hL8 hq8 => ?_
            obtain ⟨sv8, rfl, hsv8⟩ := hq8
            have hsv7 := hsv7.ext hg8.ext
            obtain ⟨f15, f9, f4, -⟩ := id hL8
            simp only [push_cast, seval, reduceCtorEq, hb9, hb15]
            refine ⟨subH_gr (N := []) trivial hg8, ?_⟩
            refine takeP8 [_, _, _] (v := .bool true) (fun MB hr he => by have := sameA8_P hsv7 hsv8 (rS.findMay D) (rS.findMay D) MB hr he; rw [decide_eq_true rfl] at this; exact this) ⟨f15, f9, f4, trivial⟩ ?_
            simp only [push_cast, seval, reduceCtorEq, hb9, hb15, wrap_i64' (show -9223372036854775808 ≤ (i : Int) + 1 ∧ (i : Int) + 1 ≤ 9223372036854775807 by omega)]
            exact ⟨⟨(i + 1, M8), hg6.trans (hg7.trans hg8), f9, f4⟩, hi9, by dsimp only; omega, rfl, subH_cons f15, rfl⟩
        · obtain rfl : i = 9 := by omega
          simp only [push_cast, seval, reduceCtorEq, hb9]
end Go.Proofs.YtpcjmmdgopihcaaGreatDoor
