/- Texts of this claim, merged by program: Oz. -/
import Derived.Test.YtolmipnaheifcaaGreatDoorZfAn
import Derived.Test.YtolmipnaheifcaaGreatDoorZfAo
set_option linter.unusedSimpArgs false
set_option linter.unusedVariables false
namespace Go.Ev
theorem guard_of {o : Oper} {g : Nat} (h : (o.after.any fun e => Region.binds .any e && e.on == g) = true) : ∃ e ∈ o.after, Region.binds .any e = true ∧ e.on = g := by
  obtain ⟨e, he, heb⟩ := Array.any_eq_true'.1 h
  simp only [Bool.and_eq_true, beq_iff_eq] at heb
  exact ⟨e, he, heb.1, heb.2⟩
theorem enc_bound {x : It} {n : Nat} (hn : n ≤ 1099511627776) (hb : x.bytes.length ≤ n) (hk : (encLs x.kids).length ≤ n) : (encL x).length ≤ n + 9 := by
  cases hl : x.list with
  | true => rw [encL_kids x hl, List.length_append]; have := headL_le9 192 (n := (encLs x.kids).length) (by omega); omega
  | false =>
    rw [encL_text x hl]
    by_cases h : x.bytes.length = 1 ∧ (x.bytes.headD 0).toNat < 128
    · obtain ⟨c, hc⟩ := List.length_eq_one_iff.1 h.1
      rw [hc] at h ⊢
      rw [textL_one (show c.toNat < 128 from h.2)]
      show 1 ≤ _
      omega
    · rw [textL_as h, List.length_append]; have := headL_le9 128 (n := x.bytes.length) (by omega); omega
end Go.Ev
namespace Go.Proofs.YtolmipnaheifcaaGreatDoor
open Go Go.Ev Go.Proofs
set_option maxRecDepth 100000
set_option maxHeartbeats 4000000
def plRT : Plans := fun i => if i = 13 then [(0, 9)] else if i = 14 then [] else Tryz.pl3 i
attribute [push_cast] plRT
theorem rlpTells_ok {M : Hp} {s0 : ByteArray} {raw : List (Int × Int)} {v : Value} {w : W} {at_ : Int} {more : ByteArray} {fl : Bool} (hk : ErrR M) (hm : marksOf M = []) (hs0 : s0.size < 140737488355328) (hv : LiR prI 2 M raw v) (hcap : CapOk v) (hin : ∀ x ∈ raw, i64In x.1 ∧ i64In x.2) (hlen : raw.length ≤ 9223372036854775807) (hat : i64In at_) (hmo : more.size < 140737488355328) :
    CallsV Tryz.prog 3 [.string s0, v, w.v, .int .i64 at_, .string more, .bool fl] M (Ret0 (.bool true)) := by
  obtain ⟨X, rfl⟩ := bs_of s0
  obtain ⟨s, rfl⟩ := bs_of more
  rw [bs_size] at hmo hs0
  obtain ⟨E, hE⟩ : ∃ E, E = encL (itemB 3 raw) := ⟨_, rfl⟩
  have hr3 := itemB_right (d := 3) (by decide) raw
  have hEl : E.length ≤ 40960 := by rw [hE]; exact itemB_len 3 raw
  have henc : encD (itemB 3 raw) = (E, 0) := by rw [encD_ok hr3 (by rw [← hE]; omega), hE]
  obtain ⟨TX, hYl, hXY⟩ : ∃ TX : List UInt8, TX.length ≤ 400 ∧ (400 < X.length ∧ X.take 400 = TX ∨ X.length ≤ 400 ∧ TX = X) := by
    rcases Nat.lt_or_ge 400 X.length with h | h
    · exact ⟨X.take 400, by rw [List.length_take]; omega, .inl ⟨h, rfl⟩⟩
    · exact ⟨X, h, .inr ⟨h, rfl⟩⟩
  have e1 := i64B_in hat
  obtain ⟨k2, hk2⟩ : ∃ k, k = pickN at_ 2 := ⟨_, rfl⟩
  have hk2l := pickN_lt at_ (show (0 : Int) < 2 by decide)
  rw [← hk2] at hk2l
  have k21 : k2 ≤ 1 := by omega
  have k22 : (k2 : Int) ≤ 1 := by omega
  have i2 : i64B 2 = true := i64B_in (by decide)
  have p2 : posB 2 = true := posB_in (by decide)
  have z2 : ((2 : Int) == 0) = false := rfl
  have wl : w.v.cells.toList = w.cells := rfl
  refine callsO gO11_ok Tryz.mix plRT Tryz.func3 rfl Tryz.ntmps3 Tryz.results3 rfl (by first | rfl | assumption) (Nat.le_of_ble_eq_true rfl) (by kernel_rfl) ?_
  simp only [push_cast, seval, reduceCtorEq]
  intro b8 hb8
  refine useP [_] (M := M) (awk06_P hk) ⟨hb8, trivial⟩ ?_
  rcases hXY with ⟨hX, hXY⟩ | ⟨hX, hXY⟩
  case' inl =>
    have x1 : (400 : Int) < (X.length : Int) := by omega
    have x2 : (400 : Int) ≤ (X.length : Int) := by omega
    have x3 : 400 ≤ X.length := by omega
    simp only [push_cast, seval, reduceCtorEq, x1, x2, x3, hXY]
  case' inr =>
    subst hXY
    have x1 : ¬ (400 : Int) < (TX.length : Int) := by omega
    simp only [push_cast, seval, reduceCtorEq, x1]
  all_goals
    refine useL [_] (item6_ok 3 (by decide) raw v M hv hcap hin hlen) (ItemQ.rd 3 raw) hm ⟨hb8, trivial⟩ fun u M1 hg1 hL1 hq1 => ?_
    obtain ⟨y, rfl, hy1, hy2⟩ := hq1
    have hm1 := hg1.marks
    have hk1 := hk.ext hg1.ext
    obtain ⟨yl, yb, ysv, yks⟩ := y
    obtain ⟨yp, yc, hs, -⟩ := id hy2.li
    replace hs : ysv = .slice yp yks.length yc := hs
    subst hs
    have hyv : (Iv.mk yl yb (.slice yp yks.length yc) yks).v = .agg #[.bool yl, .string (bs yb), .slice yp yks.length yc] := rfl
    have f8 : fresh b8 M1 := hL1.1
    simp only [push_cast, seval, reduceCtorEq, hyv]
    intro b15 hb15
    have fY : findE (⟨b15, 0, .cel 29, [.bool yl, .string (bs yb), .slice yp yks.length yc]⟩ :: ⟨b8, 0, .cel 25, w.cells⟩ :: M1) b15 = some ⟨b15, 0, .cel 29, [.bool yl, .string (bs yb), .slice yp yks.length yc]⟩ := by simp [findE]
    refine drawS gO11_ok Tryz.mix [(3, .int .i64 at_), (5, .bool fl), (14, .string (bs TX)), (15, .pointer (some ⟨b15, 0, none⟩)), (4, .string (bs s)), (8, .pointer (some ⟨b8, 0, none⟩)), (13, .bool true)]
        (fun i val => match i with
          | 0 => val 0 = .bool fl
          | 1 => val 1 = .string (bs TX)
          | 2 => val 2 = .agg #[.bool yl, .string (bs yb), .slice yp yks.length yc]
          | 3 => ∃ b, val 3 = .slice (some ⟨b, 0, none⟩) 1 1
          | 4 => val 4 = .int .i64 at_
          | 5 => val 5 = .int .i64 (k2 : Int)
          | 6 => ∃ b, val 3 = .slice (some ⟨b, 0, none⟩) 1 1 ∧ val 6 = .slice (some ⟨b, 0, none⟩) k2 1
          | 7 => ∃ b, val 6 = .slice (some ⟨b, 0, none⟩) k2 1 ∧ val 7 = .agg #[.bool fl, .string (bs TX), .slice (some ⟨b, 0, none⟩) k2 1]
          | 8 => ∃ b, val 8 = .pointer (some ⟨b, 0, none⟩)
          | _ => True)
        (fun i val N => match i with
          | 3 => ∃ b, val 3 = .slice (some ⟨b, 0, none⟩) 1 1 ∧ N = [⟨b, 0, .vec 29 3 1, [.bool yl, .string (bs yb), .slice yp yks.length yc]⟩]
          | 6 => N = []
          | 7 => N = []
          | 8 => ∃ b, val 8 = .pointer (some ⟨b, 0, none⟩) ∧ N = [⟨b, 0, .cel 29, [.bool false, .string ByteArray.empty, .slice none 0 0]⟩]
          | 9 => ∃ b b', val 8 = .pointer (some ⟨b, 0, none⟩) ∧ val 7 = .agg #[.bool fl, .string (bs TX), .slice (some ⟨b', 0, none⟩) k2 1] ∧ N = [⟨b, 0, .cel 29, [.bool fl, .string (bs TX), .slice (some ⟨b', 0, none⟩) k2 1]⟩]
          | _ => N = []) (fun i => if i = 9 then [8] else []) [3, 9] (by kernel_rfl) (by kernel_rfl) (by kernel_rfl) ?_ (by rfl) (by decide) (by kernel_rfl) ?_ ?_ ?_ ?_ ?_
    · simp only [push_cast, seval, reduceCtorEq, subT]
    · intro i hi hiF
      replace hi : i < 10 := hi
      obtain rfl | rfl | rfl | rfl | rfl | rfl | rfl | rfl | rfl | rfl : i = 0 ∨ i = 1 ∨ i = 2 ∨ i = 3 ∨ i = 4 ∨ i = 5 ∨ i = 6 ∨ i = 7 ∨ i = 8 ∨ i = 9 := by omega
      all_goals first
        | exact .inl fun _ _ h => h
        | exact absurd (by decide) hiF
        | exact .inr (by kernel_rfl)
    · intro i o ho val val' h1 h2 hV
      have hi := (Array.getElem?_eq_some_iff.1 ho).1
      replace hi : i < 10 := hi
      obtain rfl | rfl | rfl | rfl | rfl | rfl | rfl | rfl | rfl | rfl : i = 0 ∨ i = 1 ∨ i = 2 ∨ i = 3 ∨ i = 4 ∨ i = 5 ∨ i = 6 ∨ i = 7 ∨ i = 8 ∨ i = 9 := by omega
      · first
          | exact trivial
          | exact hV
          | exact h1.trans hV
          | (rw [h1]; exact hV)
      · first
          | exact trivial
          | exact hV
          | exact h1.trans hV
          | (rw [h1]; exact hV)
      · first
          | exact trivial
          | exact hV
          | exact h1.trans hV
          | (rw [h1]; exact hV)
      · simp only [List.getElem?_toArray, List.getElem?_cons_zero, List.getElem?_cons_succ, Option.some.injEq] at ho; subst ho
        obtain ⟨b, a1⟩ := hV
        exact ⟨b, by rw [h1]; exact a1⟩
      · first
          | exact trivial
          | exact hV
          | exact h1.trans hV
          | (rw [h1]; exact hV)
      · first
          | exact trivial
          | exact hV
          | exact h1.trans hV
          | (rw [h1]; exact hV)
      · simp only [List.getElem?_toArray, List.getElem?_cons_zero, List.getElem?_cons_succ, Option.some.injEq] at ho; subst ho
        have h6 := h2 3 (by kernel_rfl)
        obtain ⟨b, a1, a2⟩ := hV
        exact ⟨b, by rw [h6]; exact a1, by rw [h1]; exact a2⟩
      · simp only [List.getElem?_toArray, List.getElem?_cons_zero, List.getElem?_cons_succ, Option.some.injEq] at ho; subst ho
        have h6 := h2 6 (by kernel_rfl)
        obtain ⟨b, a1, a2⟩ := hV
        exact ⟨b, by rw [h6]; exact a1, by rw [h1]; exact a2⟩
      · simp only [List.getElem?_toArray, List.getElem?_cons_zero, List.getElem?_cons_succ, Option.some.injEq] at ho; subst ho
        obtain ⟨b, a1⟩ := hV
        exact ⟨b, by rw [h1]; exact a1⟩
      · first
          | exact trivial
          | exact hV
          | exact h1.trans hV
          | (rw [h1]; exact hV)
    · intro i o ho val val' N h1 h2 hQ
      have hi := (Array.getElem?_eq_some_iff.1 ho).1
      replace hi : i < 10 := hi
      obtain rfl | rfl | rfl | rfl | rfl | rfl | rfl | rfl | rfl | rfl : i = 0 ∨ i = 1 ∨ i = 2 ∨ i = 3 ∨ i = 4 ∨ i = 5 ∨ i = 6 ∨ i = 7 ∨ i = 8 ∨ i = 9 := by omega
      · first
          | exact trivial
          | exact hQ
          | exact h1.trans hQ
          | (rw [h1]; exact hQ)
      · first
          | exact trivial
          | exact hQ
          | exact h1.trans hQ
          | (rw [h1]; exact hQ)
      · first
          | exact trivial
          | exact hQ
          | exact h1.trans hQ
          | (rw [h1]; exact hQ)
      · simp only [List.getElem?_toArray, List.getElem?_cons_zero, List.getElem?_cons_succ, Option.some.injEq] at ho; subst ho
        rw [h1]; exact hQ
      · first
          | exact trivial
          | exact hQ
          | exact h1.trans hQ
          | (rw [h1]; exact hQ)
      · first
          | exact trivial
          | exact hQ
          | exact h1.trans hQ
          | (rw [h1]; exact hQ)
      · first
          | exact trivial
          | exact hQ
          | exact h1.trans hQ
          | (rw [h1]; exact hQ)
      · first
          | exact trivial
          | exact hQ
          | exact h1.trans hQ
          | (rw [h1]; exact hQ)
      · simp only [List.getElem?_toArray, List.getElem?_cons_zero, List.getElem?_cons_succ, Option.some.injEq] at ho; subst ho
        rw [h1]; exact hQ
      · simp only [List.getElem?_toArray, List.getElem?_cons_zero, List.getElem?_cons_succ, Option.some.injEq] at ho; subst ho
        have h8 := h2 8 (by kernel_rfl)
        have h7 := h2 7 (by kernel_rfl)
        obtain ⟨b, b', a1, a2, a3⟩ := hQ
        exact ⟨b, b', by rw [h8]; exact a1, by rw [h7]; exact a2, a3⟩
    · intro i o ho T' Y val mem hT hdep hus hfr hY hmY hapY
      have hi := (Array.getElem?_eq_some_iff.1 ho).1
      replace hi : i < 10 := hi
      have t3 : getT T' 3 = some (.int .i64 at_) := hT.1
      have t5 : getT T' 5 = some (.bool fl) := hT.2.1
      have t14 : getT T' 14 = some (.string (bs TX)) := hT.2.2.1
      have t15 : getT T' 15 = some (.pointer (some ⟨b15, 0, none⟩)) := hT.2.2.2.1
      have y15 := hY _ _ fY
      obtain rfl | rfl | rfl | rfl | rfl | rfl | rfl | rfl | rfl | rfl : i = 0 ∨ i = 1 ∨ i = 2 ∨ i = 3 ∨ i = 4 ∨ i = 5 ∨ i = 6 ∨ i = 7 ∨ i = 8 ∨ i = 9 := by omega
      · simp only [List.getElem?_toArray, List.getElem?_cons_zero, List.getElem?_cons_succ, Option.some.injEq] at ho; subst ho
        simp only [push_cast, seval, reduceCtorEq, List.flatMap_nil, List.flatMap_cons, List.append_nil, List.nil_append, t5]
        exact ⟨[], rfl, trivial, rfl, upd_self _ _ _, rfl⟩
      · simp only [List.getElem?_toArray, List.getElem?_cons_zero, List.getElem?_cons_succ, Option.some.injEq] at ho; subst ho
        simp only [push_cast, seval, reduceCtorEq, List.flatMap_nil, List.flatMap_cons, List.append_nil, List.nil_append, t14]
        exact ⟨[], rfl, trivial, rfl, upd_self _ _ _, rfl⟩
      · simp only [List.getElem?_toArray, List.getElem?_cons_zero, List.getElem?_cons_succ, Option.some.injEq] at ho; subst ho
        simp only [push_cast, seval, reduceCtorEq, List.flatMap_nil, List.flatMap_cons, List.append_nil, List.nil_append, t15, y15]
        exact ⟨[], rfl, trivial, rfl, upd_self _ _ _, rfl⟩
      · simp only [List.getElem?_toArray, List.getElem?_cons_zero, List.getElem?_cons_succ, Option.some.injEq] at ho; subst ho
        obtain ⟨v2, g2⟩ := hdep 2 (by kernel_rfl)
        replace g2 := g2 50 rfl
        rw [show val 2 = _ from v2] at g2
        simp only [push_cast, seval, reduceCtorEq, List.flatMap_nil, List.flatMap_cons, List.append_nil, List.nil_append, g2]
        intro b hf
        exact ⟨[_], rfl, ⟨trivial, trivial⟩, rfl, ⟨b, upd_self _ _ _⟩, b, upd_self _ _ _, rfl⟩
      · simp only [List.getElem?_toArray, List.getElem?_cons_zero, List.getElem?_cons_succ, Option.some.injEq] at ho; subst ho
        simp only [push_cast, seval, reduceCtorEq, List.flatMap_nil, List.flatMap_cons, List.append_nil, List.nil_append, t3]
        exact ⟨[], rfl, trivial, rfl, upd_self _ _ _, rfl⟩
      · simp only [List.getElem?_toArray, List.getElem?_cons_zero, List.getElem?_cons_succ, Option.some.injEq] at ho; subst ho
        obtain ⟨v4, g4⟩ := hdep 4 (by kernel_rfl)
        replace g4 := g4 52 rfl
        rw [show val 4 = _ from v4] at g4
        simp only [push_cast, seval, reduceCtorEq, List.flatMap_nil, List.flatMap_cons, List.append_nil, List.nil_append, g4, e1, i2, p2, z2, ← hk2]
        exact ⟨[], rfl, trivial, rfl, upd_self _ _ _, rfl⟩
      · simp only [List.getElem?_toArray, List.getElem?_cons_zero, List.getElem?_cons_succ, Option.some.injEq] at ho; subst ho
        obtain ⟨v3, g3⟩ := hdep 3 (by kernel_rfl)
        replace g3 := g3 51 rfl
        obtain ⟨v5, g5⟩ := hdep 5 (by kernel_rfl)
        replace g5 := g5 53 rfl
        rw [show val 5 = _ from v5] at g5
        obtain ⟨b, v3⟩ := v3
        have v3 : val 3 = _ := v3
        rw [v3] at g3
        simp only [push_cast, seval, reduceCtorEq, List.flatMap_nil, List.flatMap_cons, List.append_nil, List.nil_append, g3, g5, k21, k22]
        refine ⟨[], rfl, trivial, rfl, ⟨b, ?_, ?_⟩, rfl⟩
        · rw [upd_ne (by decide)]; exact v3
        · rw [upd_self]
      · simp only [List.getElem?_toArray, List.getElem?_cons_zero, List.getElem?_cons_succ, Option.some.injEq] at ho; subst ho
        obtain ⟨v0, g0⟩ := hdep 0 (by kernel_rfl)
        replace g0 := g0 48 rfl
        rw [show val 0 = _ from v0] at g0
        obtain ⟨v1, g1⟩ := hdep 1 (by kernel_rfl)
        replace g1 := g1 49 rfl
        rw [show val 1 = _ from v1] at g1
        obtain ⟨v6, g6⟩ := hdep 6 (by kernel_rfl)
        replace g6 := g6 54 rfl
        obtain ⟨b, v3, v6⟩ := v6
        have v6 : val 6 = _ := v6
        rw [v6] at g6
        simp only [push_cast, seval, reduceCtorEq, List.flatMap_nil, List.flatMap_cons, List.append_nil, List.nil_append, g0, g1, g6]
        refine ⟨[], rfl, trivial, rfl, ⟨b, ?_, ?_⟩, rfl⟩
        · rw [upd_ne (by decide)]; exact v6
        · rw [upd_self]
      · simp only [List.getElem?_toArray, List.getElem?_cons_zero, List.getElem?_cons_succ, Option.some.injEq] at ho; subst ho
        simp only [push_cast, seval, reduceCtorEq, List.flatMap_nil, List.flatMap_cons, List.append_nil, List.nil_append]
        intro b hf
        exact ⟨[_], rfl, ⟨trivial, trivial⟩, rfl, ⟨b, upd_self _ _ _⟩, b, upd_self _ _ _, rfl⟩
      · simp only [List.getElem?_toArray, List.getElem?_cons_zero, List.getElem?_cons_succ, Option.some.injEq] at ho; subst ho
        obtain ⟨v7, g7⟩ := hdep 7 (by kernel_rfl)
        replace g7 := g7 55 rfl
        obtain ⟨v8, g8⟩ := hdep 8 (by kernel_rfl)
        replace g8 := g8 16 rfl
        obtain ⟨b', v6, v7⟩ := v7
        have v7 : val 7 = _ := v7
        rw [v7] at g7
        obtain ⟨b9, v8, hN⟩ := hus 8 (List.mem_singleton.2 rfl)
        have v8 : val 8 = _ := v8
        rw [v8] at g8
        simp only [push_cast, seval, reduceCtorEq, List.flatMap_nil, List.flatMap_cons, List.append_nil, List.nil_append, g7, g8, hN, List.cons_append]
        refine ⟨[_], rfl, ⟨trivial, trivial⟩, rfl, b9, b', ?_, ?_, rfl⟩
        · rw [upd_ne (by decide)]; exact v8
        · rw [upd_ne (by decide)]; exact v7
    · intro val mem hV hQ hap hwr
      obtain ⟨bS, v3, hN3⟩ := hQ 3 (by decide)
      obtain ⟨b16, c9, v8, v7, hN9⟩ := hQ 9 (by decide)
      obtain ⟨c6, a3, a6⟩ := hV 6 (by show 6 < 10; decide)
      obtain ⟨c7, a6', a7⟩ := hV 7 (by show 7 < 10; decide)
      replace v3 : val 3 = .slice (some ⟨bS, 0, none⟩) 1 1 := v3
      replace v8 : val 8 = .pointer (some ⟨b16, 0, none⟩) := v8
      cases v3.symm.trans a3
      cases a6.symm.trans a6'
      cases v7.symm.trans a7
      clear a3 a6' a7 hV hQ
      obtain ⟨ov, hov⟩ : ∃ ov : Value, ov = .slice (some ⟨bS, 0, none⟩) k2 1 := ⟨_, rfl⟩
      rw [← hov] at hN9 v7
      have hMM : List.flatMap mem [3, 9] ++ (⟨b15, 0, .cel 29, [.bool yl, .string (bs yb), .slice yp yks.length yc]⟩ :: ⟨b8, 0, .cel 25, w.cells⟩ :: M1) = ⟨bS, 0, .vec 29 3 1, [.bool yl, .string (bs yb), .slice yp yks.length yc]⟩ :: ⟨b16, 0, .cel 29, [.bool fl, .string (bs TX), ov]⟩ :: ⟨b15, 0, .cel 29, [.bool yl, .string (bs yb), .slice yp yks.length yc]⟩ :: ⟨b8, 0, .cel 25, w.cells⟩ :: M1 := by
        simp only [List.flatMap_cons, List.flatMap_nil, List.append_nil, hN3, hN9, List.cons_append, List.nil_append]
      rw [hMM] at hap ⊢
      have a4 := freshN_apart (A := [⟨bS, 0, .vec 29 3 1, [.bool yl, .string (bs yb), .slice yp yks.length yc]⟩, ⟨b16, 0, .cel 29, [.bool fl, .string (bs TX), ov]⟩, ⟨b15, 0, .cel 29, [.bool yl, .string (bs yb), .slice yp yks.length yc]⟩, ⟨b8, 0, .cel 25, w.cells⟩]) hap ⟨trivial, trivial, trivial, trivial, trivial⟩
      obtain ⟨fS, f16, f15, f8', -⟩ := a4
      have p1 := (List.pairwise_cons.1 hap).1
      have p2 := (List.pairwise_cons.1 (List.pairwise_cons.1 hap).2).1
      have n1 : ¬ bS = b16 := p1 _ (.head _) (.inl trivial)
      have n2 : ¬ bS = b15 := p1 _ (.tail _ (.head _)) (.inl trivial)
      have n3 : ¬ bS = b8 := p1 _ (.tail _ (.tail _ (.head _))) (.inl trivial)
      have n4 : ¬ b16 = b15 := p2 _ (.head _) (.inl trivial)
      have n5 : ¬ b16 = b8 := p2 _ (.tail _ (.head _)) (.inl trivial)
      have n6 : ¬ b15 = b8 := hb15.1
      have m1 : ¬ b16 = bS := fun h => n1 h.symm
      have m2 : ¬ b15 = bS := fun h => n2 h.symm
      have m3 : ¬ b8 = bS := fun h => n3 h.symm
      have m4 : ¬ b15 = b16 := fun h => n4 h.symm
      have m5 : ¬ b8 = b16 := fun h => n5 h.symm
      have m6 : ¬ b8 = b15 := hb15.2.1
      clear p1 p2
      have ovone : oneC ov = true := by rw [hov]; rfl
      have wc1 : w.cells.all oneC = true := W.all1 w
      have wc2 : w.cells.length = 4 := by obtain ⟨_, _, _, _⟩ := w; rfl
      have wc3 : List.take 4 w.cells = w.cells := List.take_of_length_le (Nat.le_of_eq wc2)
      have wc4 : Value.agg w.cells.toArray = w.v := rfl
      clear hN3 hN9 hMM hwr
      have hl5 : (if oneC ov = true then true else true) = true := by simp
      simp only [push_cast, seval, reduceCtorEq, dstsL, v8, ovone, n1, n2, n3, n4, n5, n6, m1, m2, m3, m4, m5, m6, wc1, wc2, wc3, wc4]
      intro bL hbL
      have lS : ¬ bL = bS := hbL.1
      have lS' : ¬ bS = bL := hbL.2.1
      have l6 : ¬ bL = b16 := hbL.2.2.1
      have l6' : ¬ b16 = bL := hbL.2.2.2.1
      have l5 : ¬ bL = b15 := hbL.2.2.2.2.1
      have l5' : ¬ b15 = bL := hbL.2.2.2.2.2.1
      have l8 : ¬ bL = b8 := hbL.2.2.2.2.2.2.1
      have l8' : ¬ b8 = bL := hbL.2.2.2.2.2.2.2.1
      have fL : fresh bL M1 := hbL.2.2.2.2.2.2.2.2
      simp only [push_cast, seval, reduceCtorEq, ovone, n1, n2, n3, n4, n5, n6, m1, m2, m3, m4, m5, m6, lS, lS', l6, l6', l5, l5', l8, l8', wc1, wc2, wc3, wc4]
      refine ⟨subH_skip6 fL (subH_self _), ?_⟩
      intro bK hbK
      have kL : ¬ bK = bL := hbK.1
      have kL' : ¬ bL = bK := hbK.2.1
      have kS : ¬ bK = bS := hbK.2.2.1
      have kS' : ¬ bS = bK := hbK.2.2.2.1
      have k6 : ¬ bK = b16 := hbK.2.2.2.2.1
      have k6' : ¬ b16 = bK := hbK.2.2.2.2.2.1
      have k5 : ¬ bK = b15 := hbK.2.2.2.2.2.2.1
      have k5' : ¬ b15 = bK := hbK.2.2.2.2.2.2.2.1
      have k8 : ¬ bK = b8 := hbK.2.2.2.2.2.2.2.2.1
      have k8' : ¬ b8 = bK := hbK.2.2.2.2.2.2.2.2.2.1
      have fK : fresh bK M1 := hbK.2.2.2.2.2.2.2.2.2.2
      simp only [push_cast, seval, reduceCtorEq, ovone, n1, n2, n3, n4, n5, n6, m1, m2, m3, m4, m5, m6, lS, lS', l6, l6', l5, l5', l8, l8', kL, kL', kS, kS', k6, k6', k5, k5', k8, k8', wc1, wc2, wc3, wc4]
      refine ⟨subH_skip6 fK (subH_self _), ?_⟩
      obtain ⟨y0, hy0⟩ : ∃ y0, y0 = Iv.mk yl yb (.slice yp yks.length yc) yks := ⟨_, rfl⟩
      obtain ⟨O, hO⟩ : ∃ O, O = Iv.mk fl TX ov ([y0].take k2) := ⟨_, rfl⟩
      obtain ⟨T1, hT1⟩ : ∃ T1, T1 = Iv.mk false TX (.slice none 0 0) [] := ⟨_, rfl⟩
      obtain ⟨N1, hN1⟩ : ∃ N1, N1 = Iv.mk false (numL w) (.slice none 0 0) [] := ⟨_, rfl⟩
      obtain ⟨L1, hL1'⟩ : ∃ L1, L1 = Iv.mk true [] (.slice (some ⟨bL, 0, none⟩) 2 2) [y0, O] := ⟨_, rfl⟩
      obtain ⟨G, hG⟩ : ∃ G : Hp, G = ⟨bL, 0, .vec 29 3 2, [y0, O].flatMap Iv.cells⟩ :: ⟨bS, 0, .vec 29 3 1, [y0].flatMap Iv.cells⟩ :: ⟨b16, 0, .cel 29, O.cells⟩ :: ⟨b15, 0, .cel 29, y0.cells⟩ :: ⟨b8, 0, .cel 25, w.cells⟩ :: M1 := ⟨_, rfl⟩
      have hGx : G = ⟨bL, 0, .vec 29 3 2, [.bool yl, .string (bs yb), .slice yp yks.length yc, .bool fl, .string (bs TX), ov]⟩ :: ⟨bS, 0, .vec 29 3 1, [.bool yl, .string (bs yb), .slice yp yks.length yc]⟩ :: ⟨b16, 0, .cel 29, [.bool fl, .string (bs TX), ov]⟩ :: ⟨b15, 0, .cel 29, [.bool yl, .string (bs yb), .slice yp yks.length yc]⟩ :: ⟨b8, 0, .cel 25, w.cells⟩ :: M1 := by
        rw [hG, hO, hy0]; rfl
      obtain ⟨KC, hKC⟩ : ∃ KC, KC = [y0, O, T1, N1, L1].flatMap Iv.cells := ⟨_, rfl⟩
      have hKx : KC = [.bool yl, .string (bs yb), .slice yp yks.length yc, .bool fl, .string (bs TX), ov, .bool false, .string (bs TX), .slice none 0 0, .bool false, .string (bs (numL w)), .slice none 0 0, .bool true, .string (bs []), .slice (some ⟨bL, 0, none⟩) 2 2] := by
        rw [hKC, hO, hT1, hN1, hL1', hy0]; rfl
      have fKG : fresh bK G := by rw [hGx]; exact hbK
      have g15 : findE G b15 = some ⟨b15, 0, .cel 29, [.bool yl, .string (bs yb), .slice yp yks.length yc]⟩ := by rw [hGx]; simp [findE, l5', m2, m4]
      have g8 : findE G b8 = some ⟨b8, 0, .cel 25, w.cells⟩ := by rw [hGx]; simp [findE, l8', m3, m5, m6]
      have gS : cellsAt G bS 0 3 = some ([y0].flatMap Iv.cells) := by rw [hG]; unfold cellsAt; simp only [findE, if_neg lS', if_true]; rfl
      have gL : cellsAt G bL 0 6 = some ([y0, O].flatMap Iv.cells) := by rw [hG]; unfold cellsAt; simp only [findE, if_true]; rfl
      have hxG : Ext M1 G := by rw [hGx]; exact Ext.front (N := [_, _, _, _, _]) hm1 rfl ⟨fL, fS, f16, f15, f8', trivial⟩
      have mG := hxG.marks
      rw [← hGx, ← hKx]
      have y0ok : IvOk G y0 := by rw [hy0]; exact hy2.ext hxG
      have y0it : y0.it = itemB 3 raw := by rw [hy0]; exact hy1
      have k2c : k2 = 0 ∨ k2 = 1 := by omega
      have Ok : IvOk G O := by
        rw [hO]
        rcases k2c with h | h
        · rw [h]; exact .mk _ ⟨_, 1, by show ov = _; rw [hov, h]; rfl, .inl rfl⟩ (Nat.zero_le _) fun z hz => absurd hz (by show ¬ z ∈ []; simp)
        · rw [h]; exact .mk _ ⟨some ⟨bS, 0, none⟩, 1, by show ov = _; rw [hov, h]; rfl, .inr ⟨bS, 0, rfl, gS⟩⟩ (show 1 ≤ 1099511627776 by decide) fun z hz => by rw [List.mem_singleton.1 (show z ∈ [y0] from hz)]; exact y0ok
      have T1ok : IvOk G T1 := by rw [hT1]; exact IvOk.text _ _ _ _
      have N1ok : IvOk G N1 := by rw [hN1]; exact IvOk.text _ _ _ _
      have L1ok : IvOk G L1 := by
        rw [hL1']
        refine .mk _ ⟨some ⟨bL, 0, none⟩, 2, rfl, .inr ⟨bL, 0, rfl, gL⟩⟩ (show 2 ≤ 1099511627776 by decide) fun z hz => ?_
        rcases List.mem_cons.1 (show z ∈ [y0, O] from hz) with rfl | hz
        · exact y0ok
        · rw [List.mem_singleton.1 hz]; exact Ok
      have y0e : (encL y0.it).length ≤ 40960 := by rw [y0it, ← hE]; exact hEl
      have Oe : (encL O.it).length ≤ 40969 := by
        refine enc_bound (n := 40960) (by decide) (by rw [Iv.it_bytes, hO]; show TX.length ≤ _; omega) ?_
        rw [Iv.it_kids, hO]
        rcases k2c with h | h
        · rw [h]; show (encLs []).length ≤ _; rw [encLs]; exact Nat.zero_le _
        · rw [h]; show (encLs [y0.it]).length ≤ _; rw [encLs, encLs, List.append_nil]; exact y0e
      have Te : (encL T1.it).length ≤ 409 := enc_bound (n := 400) (by decide) (by rw [Iv.it_bytes, hT1]; exact hYl) (by rw [Iv.it_kids, hT1]; show (encLs []).length ≤ _; rw [encLs]; exact Nat.zero_le _)
      have Ne : (encL N1.it).length ≤ 41 := enc_bound (n := 32) (by decide) (by rw [Iv.it_bytes, hN1]; exact numL_len w) (by rw [Iv.it_kids, hN1]; show (encLs []).length ≤ _; rw [encLs]; exact Nat.zero_le _)
      have Le : (encL L1.it).length ≤ 90009 := by
        refine enc_bound (n := 90000) (by decide) (by rw [Iv.it_bytes, hL1']; exact Nat.zero_le _) ?_
        rw [Iv.it_kids, hL1']
        show (encLs [y0.it, O.it]).length ≤ _
        rw [encLs, encLs, encLs, List.append_nil, List.length_append]
        omega
      have each : ∀ i, i < 5 → ∃ z : Iv, List.take 3 (List.drop (i * 3) KC) = z.cells ∧ IvOk G z ∧ (encL z.it).length ≤ 90009 ∧ z.bytes.length ≤ 1099511627776 := by
        intro i hi
        rw [hKC]
        obtain rfl | rfl | rfl | rfl | rfl : i = 0 ∨ i = 1 ∨ i = 2 ∨ i = 3 ∨ i = 4 := by omega
        · exact ⟨y0, rfl, y0ok, by omega, by rw [← Iv.it_bytes, y0it]; exact Nat.zero_le _⟩
        · exact ⟨O, rfl, Ok, by omega, by rw [hO]; show TX.length ≤ _; omega⟩
        · exact ⟨T1, rfl, T1ok, by omega, by rw [hT1]; show TX.length ≤ _; omega⟩
        · exact ⟨N1, rfl, N1ok, by omega, by rw [hN1]; show (numL w).length ≤ _; have := numL_len w; omega⟩
        · exact ⟨L1, rfl, L1ok, by omega, by rw [hL1']; exact Nat.zero_le _⟩
      have KCl : KC.length = 15 := by rw [hKC]; rfl
      refine loopO gO11_ok (pl := plRT) Tryz.mix (X := Nat)
        (fun i => ([(3, .int .i64 at_), (4, .string (bs s)), (8, .pointer (some ⟨b8, 0, none⟩)), (13, .bool true), (14, .string (bs TX)), (15, .pointer (some ⟨b15, 0, none⟩)), (66, .slice (some ⟨bK, 0, none⟩) 5 5), (67, .int .i64 5), (68, .int .i64 (i : Int))], ⟨bK, 0, .vec 29 3 5, KC⟩ :: G))
        (fun i => i ≤ 5) (fun i => 5 - i) 0 ?_ ?_ (by kernel_rfl) ?_
      · exact Nat.zero_le _
      · simp only [push_cast, seval, reduceCtorEq, subH_self]
      · intro i hi
        dsimp only at hi ⊢
        rcases Nat.lt_or_ge i 5 with hlt | hge
        · have i1 : (i : Int) < 5 := by omega
          obtain ⟨z, hz3, hzok, hze, hzb⟩ := each i hlt
          obtain ⟨zl, zb, zsv, zks⟩ := z
          obtain ⟨zp, zc, hs, -⟩ := id hzok.li
          replace hs : zsv = .slice zp zks.length zc := hs
          subst hs
          have hzk : zks.length ≤ 1099511627776 := hzok.len
          replace hzb : zb.length ≤ 1099511627776 := hzb
          replace hz3 : List.take 3 (List.drop (i * 3) KC) = [.bool zl, .string (bs zb), .slice zp zks.length zc] := hz3
          have hzv : (Iv.mk zl zb (.slice zp zks.length zc) zks).v = .agg #[.bool zl, .string (bs zb), .slice zp zks.length zc] := rfl
          obtain ⟨z, hz⟩ : ∃ z, z = Iv.mk zl zb (.slice zp zks.length zc) zks := ⟨_, rfl⟩
          rw [← hz] at hzok hze hzv
          have i3 : i * 3 + 3 ≤ 15 := by omega
          simp only [push_cast, seval, reduceCtorEq, i1, hlt, i3, KCl, hz3]
          intro b18 hb18
          have f18 : fresh b18 G := hb18.2.2
          have encv : (encL z.it).length ≤ 1099511627776 := by omega
          obtain ⟨R, hR⟩ : ∃ R, R = encD z.it := ⟨_, rfl⟩
          obtain ⟨R1, R2⟩ := R
          refine useP [_, _] (M := G) (v := .tuple #[.string (bs R1), .int .i64 R2]) (fun M0 hr he => by have := renc_R hzok encv M0 hr he; rw [hzv, ← hR] at this; exact this) ⟨f18, fKG, trivial⟩ ?_
          simp only [push_cast, seval, reduceCtorEq, hb18]
          refine useP [_, _] (M := G) (v := .tuple #[.string (bs R1), .int .i64 R2]) (fun M0 hr he => by have := refenc_R hzok encv M0 hr he; rw [hzv, ← hR] at this; exact this) ⟨f18, fKG, trivial⟩ ?_
          obtain ⟨P, hP⟩ : ∃ P, P = valP zl zb zks.length := ⟨_, rfl⟩
          obtain ⟨P1, P2⟩ := P
          have pc2 : P1.cells.length = 4 := by obtain ⟨_, _, _, _⟩ := P1; rfl
          have pc3 : List.take 4 P1.cells = P1.cells := List.take_of_length_le (Nat.le_of_eq pc2)
          have pc4 : Value.agg P1.cells.toArray = P1.v := rfl
          have pc5 : P1.v.cells.toList = P1.cells := rfl
          simp only [push_cast, seval, reduceCtorEq, hb18, hzk, hzb, ← hP, W.all1, pc2, pc3, pc4, pc5]
          intro b23 hb23
          refine regO gO11_ok ?_
          simp only [push_cast, seval, reduceCtorEq, hb18, hb23, hzk, hzb, ← hP, W.all1, pc2, pc3, pc4, pc5]
          intro b25 hb25
          refine drawO gO11_ok Tryz.mix [(0, 0), (1, 0), (2, 0), (3, 0), (4, 0), (5, 0), (6, 0), (7, 0), (8, 0), (9, 0), (10, 0), (11, 0), (12, 0), (13, 0), (14, 0), (15, 0), (16, 0), (17, 0), (18, 0), (19, 0), (20, 0), (21, 0), (22, 0), (23, 0), (24, 0), (25, 0), (26, 0), (27, 0), (28, 0), (29, 0), (30, 0), (31, 0), (32, 0), (33, 0)] (by kernel_rfl) ?_
          have r1 : (R1 != R1) = false := bne_self_eq_false _
          have r2 : (R2 != R2) = false := bne_self_eq_false _
          have r3 : (P2 != P2) = false := bne_self_eq_false _
          simp only [push_cast, seval, reduceCtorEq, hb18, hb23, hb25, r1, r2, r3, W.all1, pc2, pc3, pc4, pc5]
          have f23 : fresh b23 G := hb23.2.2.2.2
          have f25 : fresh b25 G := hb25.2.2.2.2.2.2
          have z1 := fresh_findS f18 g15
          have z2 := fresh_findS f23 g15
          have z3 := fresh_findS f25 g15
          have z4 := fresh_findS fKG g15
          have hLL : freshN [⟨b25, 0, .cel 25, P1.cells⟩, ⟨b23, 0, .cel 25, P1.cells⟩, ⟨b18, 0, .cel 29, [.bool zl, .string (bs zb), .slice zp zks.length zc]⟩, ⟨bK, 0, .vec 29 3 5, KC⟩] G := ⟨f25, f23, f18, fKG, trivial⟩
          have hyv0 : y0.v = .agg #[.bool yl, .string (bs yb), .slice yp yks.length yc] := by rw [hy0]; rfl
          refine takeP6 [_, _, _, _] (v := .bool (rightI z.it)) (fun M0 hr he => by have := rright_R hzok M0 hr he; rw [hzv] at this; exact this) hLL ?_
          simp only [push_cast, seval, reduceCtorEq, hb18, hb23, hb25]
          refine takeP6 [_, _, _, _] (v := .bool (rightI z.it)) (fun M0 hr he => by have := refRight_R hzok M0 hr he; rw [hzv] at this; exact this) hLL ?_
          have r4 : (rightI z.it != rightI z.it) = false := bne_self_eq_false _
          simp only [push_cast, seval, reduceCtorEq, hb18, hb23, hb25, r4, g15, z1, z2, z3, z4]
          refine takeP6 [_, _, _, _] (v := .bool (sameI z.it y0.it)) (fun M0 hr he => by have := rsame_R hzok y0ok M0 hr he; rw [hzv, hyv0] at this; exact this) hLL ?_
          simp only [push_cast, seval, reduceCtorEq, hb18, hb23, hb25, g15, z1, z2, z3, z4]
          refine takeP6 [_, _, _, _] (v := .bool (sameI z.it y0.it)) (fun M0 hr he => by have := refsame_R hzok y0ok M0 hr he; rw [hzv, hyv0] at this; exact this) hLL ?_
          have r5 : (sameI z.it y0.it != sameI z.it y0.it) = false := bne_self_eq_false _
          simp only [push_cast, seval, reduceCtorEq, hb18, hb23, hb25, r5, wrap_i64' (show -9223372036854775808 ≤ (i : Int) + 1 ∧ (i : Int) + 1 ≤ 9223372036854775807 by omega)]
          exact ⟨i + 1, hlt, by omega, rfl⟩
        · obtain rfl : i = 5 := by omega
          simp only [push_cast, seval, reduceCtorEq, Int.lt_irrefl]
          have z4 := fresh_findS fKG g15
          have z5 := fresh_findS fKG g8
          have fX15 : findE (⟨bK, 0, .vec 29 3 5, KC⟩ :: G) b15 = some ⟨b15, 0, .cel 29, [.bool yl, .string (bs yb), .slice yp yks.length yc]⟩ := by simp only [findE]; rw [if_neg k5']; exact g15
          have fX8 : findE (⟨bK, 0, .vec 29 3 5, KC⟩ :: G) b8 = some ⟨b8, 0, .cel 25, w.cells⟩ := by simp only [findE]; rw [if_neg k8']; exact g8
          refine drawSg gO11_ok Tryz.mix [(3, .int .i64 at_), (4, .string (bs s)), (8, .pointer (some ⟨b8, 0, none⟩)), (13, .bool true), (14, .string (bs TX)), (15, .pointer (some ⟨b15, 0, none⟩))]
              (fun i val => match i with
                | 0 => val 0 = w.v
                | 1 => val 1 = .agg #[.bool false, .string (bs (numL w)), .slice none 0 0]
                | 2 => val 2 = w.v
                | 3 => val 3 = .agg #[.bool false, .string (bs (numL w)), .slice none 0 0]
                | 4 => val 4 = .bool true
                | 5 => val 5 = .bool false
                | 6 => val 6 = .bool false
                | 7 => val 7 = .string (bs TX)
                | 8 => val 8 = .agg #[.bool false, .string (bs TX), .slice none 0 0]
                | 9 => val 9 = .string (bs TX)
                | 10 => val 10 = .agg #[.bool false, .string (bs TX), .slice none 0 0]
                | 11 => val 11 = .bool true
                | 12 => val 12 = .bool false
                | 13 => val 13 = .bool false
                | 14 => val 14 = .bool false
                | 15 => val 15 = .agg #[.bool yl, .string (bs yb), .slice yp yks.length yc]
                | 16 => val 16 = .agg #[.bool yl, .string (bs yb), .slice yp yks.length yc]
                | 17 => ∃ b, val 17 = .slice (some ⟨b, 0, none⟩) 2 2
                | 18 => ∃ b, val 18 = .agg #[.bool true, .string (bs []), .slice (some ⟨b, 0, none⟩) 2 2]
                | 19 => val 19 = .agg #[.bool yl, .string (bs yb), .slice yp yks.length yc]
                | 20 => val 20 = .agg #[.bool yl, .string (bs yb), .slice yp yks.length yc]
                | 21 => ∃ b, val 21 = .slice (some ⟨b, 0, none⟩) 2 2
                | 22 => ∃ b, val 22 = .agg #[.bool true, .string (bs []), .slice (some ⟨b, 0, none⟩) 2 2]
                | 23 => val 23 = .bool true
                | 24 => val 24 = .bool false
                | 25 => val 25 = .bool false
                | _ => True)
              (fun i val N => match i with
                | 4 => N = []
                | 11 => N = []
                | 17 => ∃ b, val 17 = .slice (some ⟨b, 0, none⟩) 2 2 ∧ N = [⟨b, 0, .vec 29 3 2, [.bool yl, .string (bs yb), .slice yp yks.length yc, .bool yl, .string (bs yb), .slice yp yks.length yc]⟩]
                | 18 => ∃ b, val 18 = .agg #[.bool true, .string (bs []), .slice (some ⟨b, 0, none⟩) 2 2] ∧ N = [⟨b, 0, .vec 29 3 2, [.bool yl, .string (bs yb), .slice yp yks.length yc, .bool yl, .string (bs yb), .slice yp yks.length yc]⟩]
                | 21 => ∃ b, val 21 = .slice (some ⟨b, 0, none⟩) 2 2 ∧ N = [⟨b, 0, .vec 29 3 2, [.bool yl, .string (bs yb), .slice yp yks.length yc, .bool yl, .string (bs yb), .slice yp yks.length yc]⟩]
                | 22 => ∃ b, val 22 = .agg #[.bool true, .string (bs []), .slice (some ⟨b, 0, none⟩) 2 2] ∧ N = [⟨b, 0, .vec 29 3 2, [.bool yl, .string (bs yb), .slice yp yks.length yc, .bool yl, .string (bs yb), .slice yp yks.length yc]⟩]
                | 23 => ∃ bA bB, N = [⟨bA, 0, .vec 29 3 2, [.bool yl, .string (bs yb), .slice yp yks.length yc, .bool yl, .string (bs yb), .slice yp yks.length yc]⟩, ⟨bB, 0, .vec 29 3 2, [.bool yl, .string (bs yb), .slice yp yks.length yc, .bool yl, .string (bs yb), .slice yp yks.length yc]⟩]
                | _ => N = []) (fun i => if i = 18 then [17] else if i = 22 then [21] else if i = 23 then [18, 22] else []) [23] (by kernel_rfl) ?_ (by kernel_rfl) (by kernel_rfl) ?_ (by rfl) (by decide) (by kernel_rfl) ?_ ?_ ?_ ?_ ?_
          · intro i o g b ho hgd
            have hi := (Array.getElem?_eq_some_iff.1 ho).1
            replace hi : i < 26 := hi
            obtain rfl | rfl | rfl | rfl | rfl | rfl | rfl | rfl | rfl | rfl | rfl | rfl | rfl | rfl | rfl | rfl | rfl | rfl | rfl | rfl | rfl | rfl | rfl | rfl | rfl | rfl : i = 0 ∨ i = 1 ∨ i = 2 ∨ i = 3 ∨ i = 4 ∨ i = 5 ∨ i = 6 ∨ i = 7 ∨ i = 8 ∨ i = 9 ∨ i = 10 ∨ i = 11 ∨ i = 12 ∨ i = 13 ∨ i = 14 ∨ i = 15 ∨ i = 16 ∨ i = 17 ∨ i = 18 ∨ i = 19 ∨ i = 20 ∨ i = 21 ∨ i = 22 ∨ i = 23 ∨ i = 24 ∨ i = 25 := by omega
            all_goals (simp only [List.getElem?_toArray, List.getElem?_cons_zero, List.getElem?_cons_succ, Option.some.injEq] at ho; subst ho; first | (cases hgd; done) | (cases hgd; exact ⟨guard_of (by kernel_rfl), _, _, rfl, rfl, fun val hV => hV⟩))
          · simp only [push_cast, seval, reduceCtorEq, subT]
          · intro i hi hiF
            replace hi : i < 26 := hi
            obtain rfl | rfl | rfl | rfl | rfl | rfl | rfl | rfl | rfl | rfl | rfl | rfl | rfl | rfl | rfl | rfl | rfl | rfl | rfl | rfl | rfl | rfl | rfl | rfl | rfl | rfl : i = 0 ∨ i = 1 ∨ i = 2 ∨ i = 3 ∨ i = 4 ∨ i = 5 ∨ i = 6 ∨ i = 7 ∨ i = 8 ∨ i = 9 ∨ i = 10 ∨ i = 11 ∨ i = 12 ∨ i = 13 ∨ i = 14 ∨ i = 15 ∨ i = 16 ∨ i = 17 ∨ i = 18 ∨ i = 19 ∨ i = 20 ∨ i = 21 ∨ i = 22 ∨ i = 23 ∨ i = 24 ∨ i = 25 := by omega
            all_goals first
              | exact .inl fun _ _ h => h
              | exact absurd (by decide) hiF
              | exact .inr (by kernel_rfl)
          · intro i o ho val val' h1 h2 hV
            have hi := (Array.getElem?_eq_some_iff.1 ho).1
            replace hi : i < 26 := hi
            obtain rfl | rfl | rfl | rfl | rfl | rfl | rfl | rfl | rfl | rfl | rfl | rfl | rfl | rfl | rfl | rfl | rfl | rfl | rfl | rfl | rfl | rfl | rfl | rfl | rfl | rfl : i = 0 ∨ i = 1 ∨ i = 2 ∨ i = 3 ∨ i = 4 ∨ i = 5 ∨ i = 6 ∨ i = 7 ∨ i = 8 ∨ i = 9 ∨ i = 10 ∨ i = 11 ∨ i = 12 ∨ i = 13 ∨ i = 14 ∨ i = 15 ∨ i = 16 ∨ i = 17 ∨ i = 18 ∨ i = 19 ∨ i = 20 ∨ i = 21 ∨ i = 22 ∨ i = 23 ∨ i = 24 ∨ i = 25 := by omega
            · first
                | exact trivial
                | exact hV
                | exact h1.trans hV
                | (rw [h1]; exact hV)
            · first
                | exact trivial
                | exact hV
                | exact h1.trans hV
                | (rw [h1]; exact hV)
            · first
                | exact trivial
                | exact hV
                | exact h1.trans hV
                | (rw [h1]; exact hV)
            · first
                | exact trivial
                | exact hV
                | exact h1.trans hV
                | (rw [h1]; exact hV)
            · first
                | exact trivial
                | exact hV
                | exact h1.trans hV
                | (rw [h1]; exact hV)
            · first
                | exact trivial
                | exact hV
                | exact h1.trans hV
                | (rw [h1]; exact hV)
            · first
                | exact trivial
                | exact hV
                | exact h1.trans hV
                | (rw [h1]; exact hV)
            · first
                | exact trivial
                | exact hV
                | exact h1.trans hV
                | (rw [h1]; exact hV)
            · first
                | exact trivial
                | exact hV
                | exact h1.trans hV
                | (rw [h1]; exact hV)
            · first
                | exact trivial
                | exact hV
                | exact h1.trans hV
                | (rw [h1]; exact hV)
            · first
                | exact trivial
                | exact hV
                | exact h1.trans hV
                | (rw [h1]; exact hV)
            · first
                | exact trivial
                | exact hV
                | exact h1.trans hV
                | (rw [h1]; exact hV)
            · first
                | exact trivial
                | exact hV
                | exact h1.trans hV
                | (rw [h1]; exact hV)
            · first
                | exact trivial
                | exact hV
                | exact h1.trans hV
                | (rw [h1]; exact hV)
            · first
                | exact trivial
                | exact hV
                | exact h1.trans hV
                | (rw [h1]; exact hV)
            · first
                | exact trivial
                | exact hV
                | exact h1.trans hV
                | (rw [h1]; exact hV)
            · first
                | exact trivial
                | exact hV
                | exact h1.trans hV
                | (rw [h1]; exact hV)
            · simp only [List.getElem?_toArray, List.getElem?_cons_zero, List.getElem?_cons_succ, Option.some.injEq] at ho; subst ho
              obtain ⟨b, a1⟩ := hV
              exact ⟨b, by rw [h1]; exact a1⟩
            · simp only [List.getElem?_toArray, List.getElem?_cons_zero, List.getElem?_cons_succ, Option.some.injEq] at ho; subst ho
              obtain ⟨b, a1⟩ := hV
              exact ⟨b, by rw [h1]; exact a1⟩
            · first
                | exact trivial
                | exact hV
                | exact h1.trans hV
                | (rw [h1]; exact hV)
            · first
                | exact trivial
                | exact hV
                | exact h1.trans hV
                | (rw [h1]; exact hV)
            · simp only [List.getElem?_toArray, List.getElem?_cons_zero, List.getElem?_cons_succ, Option.some.injEq] at ho; subst ho
              obtain ⟨b, a1⟩ := hV
              exact ⟨b, by rw [h1]; exact a1⟩
            · simp only [List.getElem?_toArray, List.getElem?_cons_zero, List.getElem?_cons_succ, Option.some.injEq] at ho; subst ho
              obtain ⟨b, a1⟩ := hV
              exact ⟨b, by rw [h1]; exact a1⟩
            · first
                | exact trivial
                | exact hV
                | exact h1.trans hV
                | (rw [h1]; exact hV)
            · first
                | exact trivial
                | exact hV
                | exact h1.trans hV
                | (rw [h1]; exact hV)
            · first
                | exact trivial
                | exact hV
                | exact h1.trans hV
                | (rw [h1]; exact hV)
          · intro i o ho val val' N h1 h2 hQ
            have hi := (Array.getElem?_eq_some_iff.1 ho).1
            replace hi : i < 26 := hi
            obtain rfl | rfl | rfl | rfl | rfl | rfl | rfl | rfl | rfl | rfl | rfl | rfl | rfl | rfl | rfl | rfl | rfl | rfl | rfl | rfl | rfl | rfl | rfl | rfl | rfl | rfl : i = 0 ∨ i = 1 ∨ i = 2 ∨ i = 3 ∨ i = 4 ∨ i = 5 ∨ i = 6 ∨ i = 7 ∨ i = 8 ∨ i = 9 ∨ i = 10 ∨ i = 11 ∨ i = 12 ∨ i = 13 ∨ i = 14 ∨ i = 15 ∨ i = 16 ∨ i = 17 ∨ i = 18 ∨ i = 19 ∨ i = 20 ∨ i = 21 ∨ i = 22 ∨ i = 23 ∨ i = 24 ∨ i = 25 := by omega
            · first
                | exact trivial
                | exact hQ
                | exact h1.trans hQ
                | (rw [h1]; exact hQ)
            · first
                | exact trivial
                | exact hQ
                | exact h1.trans hQ
                | (rw [h1]; exact hQ)
            · first
                | exact trivial
                | exact hQ
                | exact h1.trans hQ
                | (rw [h1]; exact hQ)
            · first
                | exact trivial
                | exact hQ
                | exact h1.trans hQ
                | (rw [h1]; exact hQ)
            · first
                | exact trivial
                | exact hQ
                | exact h1.trans hQ
                | (rw [h1]; exact hQ)
            · first
                | exact trivial
                | exact hQ
                | exact h1.trans hQ
                | (rw [h1]; exact hQ)
            · first
                | exact trivial
                | exact hQ
                | exact h1.trans hQ
                | (rw [h1]; exact hQ)
            · first
                | exact trivial
                | exact hQ
                | exact h1.trans hQ
                | (rw [h1]; exact hQ)
            · first
                | exact trivial
                | exact hQ
                | exact h1.trans hQ
                | (rw [h1]; exact hQ)
            · first
                | exact trivial
                | exact hQ
                | exact h1.trans hQ
                | (rw [h1]; exact hQ)
            · first
                | exact trivial
                | exact hQ
                | exact h1.trans hQ
                | (rw [h1]; exact hQ)
            · first
                | exact trivial
                | exact hQ
                | exact h1.trans hQ
                | (rw [h1]; exact hQ)
            · first
                | exact trivial
                | exact hQ
                | exact h1.trans hQ
                | (rw [h1]; exact hQ)
            · first
                | exact trivial
                | exact hQ
                | exact h1.trans hQ
                | (rw [h1]; exact hQ)
            · first
                | exact trivial
                | exact hQ
                | exact h1.trans hQ
                | (rw [h1]; exact hQ)
            · first
                | exact trivial
                | exact hQ
                | exact h1.trans hQ
                | (rw [h1]; exact hQ)
            · first
                | exact trivial
                | exact hQ
                | exact h1.trans hQ
                | (rw [h1]; exact hQ)
            · simp only [List.getElem?_toArray, List.getElem?_cons_zero, List.getElem?_cons_succ, Option.some.injEq] at ho; subst ho
              rw [h1]; exact hQ
            · simp only [List.getElem?_toArray, List.getElem?_cons_zero, List.getElem?_cons_succ, Option.some.injEq] at ho; subst ho
              rw [h1]; exact hQ
            · first
                | exact trivial
                | exact hQ
                | exact h1.trans hQ
                | (rw [h1]; exact hQ)
            · first
                | exact trivial
                | exact hQ
                | exact h1.trans hQ
                | (rw [h1]; exact hQ)
            · simp only [List.getElem?_toArray, List.getElem?_cons_zero, List.getElem?_cons_succ, Option.some.injEq] at ho; subst ho
              rw [h1]; exact hQ
            · simp only [List.getElem?_toArray, List.getElem?_cons_zero, List.getElem?_cons_succ, Option.some.injEq] at ho; subst ho
              rw [h1]; exact hQ
            · first
                | exact trivial
                | exact hQ
                | exact h1.trans hQ
                | (rw [h1]; exact hQ)
            · first
                | exact trivial
                | exact hQ
                | exact h1.trans hQ
                | (rw [h1]; exact hQ)
            · first
                | exact trivial
                | exact hQ
                | exact h1.trans hQ
                | (rw [h1]; exact hQ)
          · intro i o ho T' Y val mem hT hdep hus hfr hY hmY hapY
            have hi := (Array.getElem?_eq_some_iff.1 ho).1
            replace hi : i < 26 := hi
            have t8 : getT T' 8 = some (.pointer (some ⟨b8, 0, none⟩)) := hT.2.2.1
            have t14 : getT T' 14 = some (.string (bs TX)) := hT.2.2.2.2.1
            have t15 : getT T' 15 = some (.pointer (some ⟨b15, 0, none⟩)) := hT.2.2.2.2.2.1
            have y15 := hY _ _ fX15
            have y8 := hY _ _ fX8
            obtain rfl | rfl | rfl | rfl | rfl | rfl | rfl | rfl | rfl | rfl | rfl | rfl | rfl | rfl | rfl | rfl | rfl | rfl | rfl | rfl | rfl | rfl | rfl | rfl | rfl | rfl : i = 0 ∨ i = 1 ∨ i = 2 ∨ i = 3 ∨ i = 4 ∨ i = 5 ∨ i = 6 ∨ i = 7 ∨ i = 8 ∨ i = 9 ∨ i = 10 ∨ i = 11 ∨ i = 12 ∨ i = 13 ∨ i = 14 ∨ i = 15 ∨ i = 16 ∨ i = 17 ∨ i = 18 ∨ i = 19 ∨ i = 20 ∨ i = 21 ∨ i = 22 ∨ i = 23 ∨ i = 24 ∨ i = 25 := by omega
            · simp only [List.getElem?_toArray, List.getElem?_cons_zero, List.getElem?_cons_succ, Option.some.injEq] at ho; subst ho
              simp only [push_cast, seval, reduceCtorEq, List.flatMap_nil, List.flatMap_cons, List.append_nil, List.nil_append, t8, y8, W.all1, wc2, wc3, wc4]
              exact ⟨[], rfl, trivial, rfl, upd_self _ _ _, rfl⟩
            · simp only [List.getElem?_toArray, List.getElem?_cons_zero, List.getElem?_cons_succ, Option.some.injEq] at ho; subst ho
              obtain ⟨v0, g0⟩ := hdep 0 (by kernel_rfl)
              replace g0 := g0 127 rfl
              rw [show val 0 = _ from v0] at g0
              simp only [push_cast, seval, reduceCtorEq, List.flatMap_nil, List.flatMap_cons, List.append_nil, List.nil_append, g0]
              exact ⟨[], rfl, trivial, rfl, upd_self _ _ _, rfl⟩
            · simp only [List.getElem?_toArray, List.getElem?_cons_zero, List.getElem?_cons_succ, Option.some.injEq] at ho; subst ho
              simp only [push_cast, seval, reduceCtorEq, List.flatMap_nil, List.flatMap_cons, List.append_nil, List.nil_append, t8, y8, W.all1, wc2, wc3, wc4]
              exact ⟨[], rfl, trivial, rfl, upd_self _ _ _, rfl⟩
            · simp only [List.getElem?_toArray, List.getElem?_cons_zero, List.getElem?_cons_succ, Option.some.injEq] at ho; subst ho
              obtain ⟨v2, g2⟩ := hdep 2 (by kernel_rfl)
              replace g2 := g2 129 rfl
              rw [show val 2 = _ from v2] at g2
              simp only [push_cast, seval, reduceCtorEq, List.flatMap_nil, List.flatMap_cons, List.append_nil, List.nil_append, g2]
              exact ⟨[], rfl, trivial, rfl, upd_self _ _ _, rfl⟩
            · simp only [List.getElem?_toArray, List.getElem?_cons_zero, List.getElem?_cons_succ, Option.some.injEq] at ho; subst ho
              obtain ⟨v1, g1⟩ := hdep 1 (by kernel_rfl)
              replace g1 := g1 128 rfl
              rw [show val 1 = _ from v1] at g1
              obtain ⟨v3, g3⟩ := hdep 3 (by kernel_rfl)
              replace g3 := g3 130 rfl
              rw [show val 3 = _ from v3] at g3
              simp only [push_cast, seval, reduceCtorEq, List.flatMap_nil, List.flatMap_cons, List.append_nil, List.nil_append, g1, g3]
              refine useP [] (M := Y) (v := .bool true) (fun M0 hr he => by have := refsame_ok N1 N1 M0 hr (by rw [hN1]; exact IvOk.text _ _ _ _) (by rw [hN1]; exact IvOk.text _ _ _ _); rw [sameI_t rfl, show N1.v = .agg #[.bool false, .string (bs (numL w)), .slice none 0 0] by rw [hN1]; rfl] at this; exact this) trivial ?_
              exact ⟨[], rfl, trivial, rfl, upd_self _ _ _, rfl⟩
            · simp only [List.getElem?_toArray, List.getElem?_cons_zero, List.getElem?_cons_succ, Option.some.injEq] at ho; subst ho
              obtain ⟨v4, g4⟩ := hdep 4 (by kernel_rfl)
              replace g4 := g4 131 rfl
              replace v4 : val 4 = _ := v4
              rw [v4] at g4
              simp only [push_cast, seval, reduceCtorEq, List.flatMap_nil, List.flatMap_cons, List.append_nil, List.nil_append, g4]
              exact ⟨[], rfl, trivial, rfl, upd_self _ _ _, rfl⟩
            · simp only [List.getElem?_toArray, List.getElem?_cons_zero, List.getElem?_cons_succ, Option.some.injEq] at ho; subst ho
              obtain ⟨v5, g5⟩ := hdep 5 (by kernel_rfl)
              replace g5 := g5 132 rfl
              rw [show val 5 = _ from v5] at g5
              simp only [push_cast, seval, reduceCtorEq, List.flatMap_nil, List.flatMap_cons, List.append_nil, List.nil_append, g5]
              exact ⟨[], rfl, trivial, rfl, upd_self _ _ _, rfl⟩
            · simp only [List.getElem?_toArray, List.getElem?_cons_zero, List.getElem?_cons_succ, Option.some.injEq] at ho; subst ho
              simp only [push_cast, seval, reduceCtorEq, List.flatMap_nil, List.flatMap_cons, List.append_nil, List.nil_append, t14]
              exact ⟨[], rfl, trivial, rfl, upd_self _ _ _, rfl⟩
            · simp only [List.getElem?_toArray, List.getElem?_cons_zero, List.getElem?_cons_succ, Option.some.injEq] at ho; subst ho
              obtain ⟨v7, g7⟩ := hdep 7 (by kernel_rfl)
              replace g7 := g7 134 rfl
              rw [show val 7 = _ from v7] at g7
              simp only [push_cast, seval, reduceCtorEq, List.flatMap_nil, List.flatMap_cons, List.append_nil, List.nil_append, g7]
              exact ⟨[], rfl, trivial, rfl, upd_self _ _ _, rfl⟩
            · simp only [List.getElem?_toArray, List.getElem?_cons_zero, List.getElem?_cons_succ, Option.some.injEq] at ho; subst ho
              simp only [push_cast, seval, reduceCtorEq, List.flatMap_nil, List.flatMap_cons, List.append_nil, List.nil_append, t14]
              exact ⟨[], rfl, trivial, rfl, upd_self _ _ _, rfl⟩
            · simp only [List.getElem?_toArray, List.getElem?_cons_zero, List.getElem?_cons_succ, Option.some.injEq] at ho; subst ho
              obtain ⟨v9, g9⟩ := hdep 9 (by kernel_rfl)
              replace g9 := g9 136 rfl
              rw [show val 9 = _ from v9] at g9
              simp only [push_cast, seval, reduceCtorEq, List.flatMap_nil, List.flatMap_cons, List.append_nil, List.nil_append, g9]
              exact ⟨[], rfl, trivial, rfl, upd_self _ _ _, rfl⟩
            · simp only [List.getElem?_toArray, List.getElem?_cons_zero, List.getElem?_cons_succ, Option.some.injEq] at ho; subst ho
              obtain ⟨v8, g8⟩ := hdep 8 (by kernel_rfl)
              replace g8 := g8 135 rfl
              rw [show val 8 = _ from v8] at g8
              obtain ⟨v10, g10⟩ := hdep 10 (by kernel_rfl)
              replace g10 := g10 137 rfl
              rw [show val 10 = _ from v10] at g10
              simp only [push_cast, seval, reduceCtorEq, List.flatMap_nil, List.flatMap_cons, List.append_nil, List.nil_append, g8, g10]
              refine useP [] (M := Y) (v := .bool true) (fun M0 hr he => by have := refsame_ok T1 T1 M0 hr (by rw [hT1]; exact IvOk.text _ _ _ _) (by rw [hT1]; exact IvOk.text _ _ _ _); rw [sameI_t rfl, show T1.v = .agg #[.bool false, .string (bs TX), .slice none 0 0] by rw [hT1]; rfl] at this; exact this) trivial ?_
              exact ⟨[], rfl, trivial, rfl, upd_self _ _ _, rfl⟩
            · simp only [List.getElem?_toArray, List.getElem?_cons_zero, List.getElem?_cons_succ, Option.some.injEq] at ho; subst ho
              obtain ⟨v11, g11⟩ := hdep 11 (by kernel_rfl)
              replace g11 := g11 138 rfl
              replace v11 : val 11 = _ := v11
              rw [v11] at g11
              simp only [push_cast, seval, reduceCtorEq, List.flatMap_nil, List.flatMap_cons, List.append_nil, List.nil_append, g11]
              exact ⟨[], rfl, trivial, rfl, upd_self _ _ _, rfl⟩
            · simp only [List.getElem?_toArray, List.getElem?_cons_zero, List.getElem?_cons_succ, Option.some.injEq] at ho; subst ho
              obtain ⟨v6, g6⟩ := hdep 6 (by kernel_rfl)
              replace g6 := g6 133 rfl
              rw [show val 6 = _ from v6] at g6
              obtain ⟨v12, g12⟩ := hdep 12 (by kernel_rfl)
              replace g12 := g12 139 rfl
              rw [show val 12 = _ from v12] at g12
              simp only [push_cast, seval, reduceCtorEq, List.flatMap_nil, List.flatMap_cons, List.append_nil, List.nil_append, g6, g12]
              exact ⟨[], rfl, trivial, rfl, upd_self _ _ _, rfl⟩
            · simp only [List.getElem?_toArray, List.getElem?_cons_zero, List.getElem?_cons_succ, Option.some.injEq] at ho; subst ho
              obtain ⟨v13, g13⟩ := hdep 13 (by kernel_rfl)
              replace g13 := g13 140 rfl
              rw [show val 13 = _ from v13] at g13
              simp only [push_cast, seval, reduceCtorEq, List.flatMap_nil, List.flatMap_cons, List.append_nil, List.nil_append, g13]
              exact ⟨[], rfl, trivial, rfl, upd_self _ _ _, rfl⟩
            · simp only [List.getElem?_toArray, List.getElem?_cons_zero, List.getElem?_cons_succ, Option.some.injEq] at ho; subst ho
              simp only [push_cast, seval, reduceCtorEq, List.flatMap_nil, List.flatMap_cons, List.append_nil, List.nil_append, t15, y15]
              exact ⟨[], rfl, trivial, rfl, upd_self _ _ _, rfl⟩
            · simp only [List.getElem?_toArray, List.getElem?_cons_zero, List.getElem?_cons_succ, Option.some.injEq] at ho; subst ho
              simp only [push_cast, seval, reduceCtorEq, List.flatMap_nil, List.flatMap_cons, List.append_nil, List.nil_append, t15, y15]
              exact ⟨[], rfl, trivial, rfl, upd_self _ _ _, rfl⟩
            · simp only [List.getElem?_toArray, List.getElem?_cons_zero, List.getElem?_cons_succ, Option.some.injEq] at ho; subst ho
              obtain ⟨v15, g15⟩ := hdep 15 (by kernel_rfl)
              replace g15 := g15 142 rfl
              rw [show val 15 = _ from v15] at g15
              obtain ⟨v16, g16⟩ := hdep 16 (by kernel_rfl)
              replace g16 := g16 143 rfl
              rw [show val 16 = _ from v16] at g16
              simp only [push_cast, seval, reduceCtorEq, List.flatMap_nil, List.flatMap_cons, List.append_nil, List.nil_append, g15, g16]
              intro b hf
              exact ⟨[_], rfl, ⟨trivial, trivial⟩, rfl, ⟨b, upd_self _ _ _⟩, b, upd_self _ _ _, rfl⟩
            · simp only [List.getElem?_toArray, List.getElem?_cons_zero, List.getElem?_cons_succ, Option.some.injEq] at ho; subst ho
              obtain ⟨v17, g17⟩ := hdep 17 (by kernel_rfl)
              replace g17 := g17 144 rfl
              obtain ⟨b, w1, hN⟩ := hus 17 (List.mem_singleton.2 rfl)
              replace w1 : val 17 = _ := w1
              rw [w1] at g17
              simp only [push_cast, seval, reduceCtorEq, List.flatMap_nil, List.flatMap_cons, List.append_nil, List.nil_append, g17, hN, List.cons_append]
              exact ⟨[_], rfl, ⟨trivial, trivial⟩, rfl, ⟨b, upd_self _ _ _⟩, b, upd_self _ _ _, rfl⟩
            · simp only [List.getElem?_toArray, List.getElem?_cons_zero, List.getElem?_cons_succ, Option.some.injEq] at ho; subst ho
              simp only [push_cast, seval, reduceCtorEq, List.flatMap_nil, List.flatMap_cons, List.append_nil, List.nil_append, t15, y15]
              exact ⟨[], rfl, trivial, rfl, upd_self _ _ _, rfl⟩
            · simp only [List.getElem?_toArray, List.getElem?_cons_zero, List.getElem?_cons_succ, Option.some.injEq] at ho; subst ho
              simp only [push_cast, seval, reduceCtorEq, List.flatMap_nil, List.flatMap_cons, List.append_nil, List.nil_append, t15, y15]
              exact ⟨[], rfl, trivial, rfl, upd_self _ _ _, rfl⟩
            · simp only [List.getElem?_toArray, List.getElem?_cons_zero, List.getElem?_cons_succ, Option.some.injEq] at ho; subst ho
              obtain ⟨v19, g19⟩ := hdep 19 (by kernel_rfl)
              replace g19 := g19 146 rfl
              rw [show val 19 = _ from v19] at g19
              obtain ⟨v20, g20⟩ := hdep 20 (by kernel_rfl)
              replace g20 := g20 147 rfl
              rw [show val 20 = _ from v20] at g20
              simp only [push_cast, seval, reduceCtorEq, List.flatMap_nil, List.flatMap_cons, List.append_nil, List.nil_append, g19, g20]
              intro b hf
              exact ⟨[_], rfl, ⟨trivial, trivial⟩, rfl, ⟨b, upd_self _ _ _⟩, b, upd_self _ _ _, rfl⟩
            · simp only [List.getElem?_toArray, List.getElem?_cons_zero, List.getElem?_cons_succ, Option.some.injEq] at ho; subst ho
              obtain ⟨v21, g21⟩ := hdep 21 (by kernel_rfl)
              replace g21 := g21 148 rfl
              obtain ⟨b, w1, hN⟩ := hus 21 (List.mem_singleton.2 rfl)
              replace w1 : val 21 = _ := w1
              rw [w1] at g21
              simp only [push_cast, seval, reduceCtorEq, List.flatMap_nil, List.flatMap_cons, List.append_nil, List.nil_append, g21, hN, List.cons_append]
              exact ⟨[_], rfl, ⟨trivial, trivial⟩, rfl, ⟨b, upd_self _ _ _⟩, b, upd_self _ _ _, rfl⟩
            · simp only [List.getElem?_toArray, List.getElem?_cons_zero, List.getElem?_cons_succ, Option.some.injEq] at ho; subst ho
              obtain ⟨v18, g18⟩ := hdep 18 (by kernel_rfl)
              replace g18 := g18 145 rfl
              obtain ⟨v22, g22⟩ := hdep 22 (by kernel_rfl)
              replace g22 := g22 149 rfl
              obtain ⟨bA, wA, hNA⟩ := hus 18 (.head _)
              replace wA : val 18 = _ := wA
              rw [wA] at g18
              obtain ⟨bB, wB, hNB⟩ := hus 22 (.tail _ (.head _))
              replace wB : val 22 = _ := wB
              rw [wB] at g22
              replace hfr : freshN ([18, 22].flatMap mem) Y := hfr
              simp only [List.flatMap_cons, List.flatMap_nil, List.append_nil, hNA, hNB, List.cons_append, List.nil_append] at hfr
              simp only [push_cast, seval, reduceCtorEq, List.flatMap_nil, List.flatMap_cons, List.append_nil, List.nil_append, g18, g22, hNA, hNB, List.cons_append]
              replace hapY : ApartE ([18, 22].flatMap mem ++ Y) := hapY
              simp only [List.flatMap_cons, List.flatMap_nil, List.append_nil, hNA, hNB, List.cons_append, List.nil_append] at hapY
              have nAB : ¬ bA = bB := (List.pairwise_cons.1 hapY).1 _ (.head _) (.inl trivial)
              have nBA : ¬ bB = bA := fun h => nAB h.symm
              obtain ⟨Z, hZ⟩ : ∃ Z : Hp, Z = ⟨bA, 0, .vec 29 3 2, [.bool yl, .string (bs yb), .slice yp yks.length yc, .bool yl, .string (bs yb), .slice yp yks.length yc]⟩ :: ⟨bB, 0, .vec 29 3 2, [.bool yl, .string (bs yb), .slice yp yks.length yc, .bool yl, .string (bs yb), .slice yp yks.length yc]⟩ :: Y := ⟨_, rfl⟩
              have hGY : Ext G Z := by
                rw [hZ]
                refine ⟨?_, fun b o n cs h => ?_⟩
                · show marksOf Y = []
                  rw [hmY]; exact mG
                · obtain ⟨e, he⟩ := cellsAt_findS h
                  have hX : findE (⟨bK, 0, .vec 29 3 5, KC⟩ :: G) b = some e := find_behind (L := [_]) ⟨fKG, trivial⟩ b e he
                  have h3 : findE (⟨bA, 0, .vec 29 3 2, [.bool yl, .string (bs yb), .slice yp yks.length yc, .bool yl, .string (bs yb), .slice yp yks.length yc]⟩ :: ⟨bB, 0, .vec 29 3 2, [.bool yl, .string (bs yb), .slice yp yks.length yc, .bool yl, .string (bs yb), .slice yp yks.length yc]⟩ :: Y) b = some e := find_behind (L := [_, _]) hfr b e (hY b e hX)
                  unfold cellsAt at h ⊢
                  rw [he] at h
                  rw [h3]
                  exact h
              have hc2 : [y0, y0].flatMap Iv.cells = [.bool yl, .string (bs yb), .slice yp yks.length yc, .bool yl, .string (bs yb), .slice yp yks.length yc] := by rw [hy0]; rfl
              have LAok : IvOk Z (.mk true [] (.slice (some ⟨bA, 0, none⟩) 2 2) [y0, y0]) := by
                refine .mk _ ⟨some ⟨bA, 0, none⟩, 2, rfl, .inr ⟨bA, 0, rfl, ?_⟩⟩ (show 2 ≤ 1099511627776 by decide) fun z hz => ?_
                · show cellsAt Z bA 0 6 = some ([y0, y0].flatMap Iv.cells)
                  rw [hc2, hZ]; unfold cellsAt; simp only [findE, if_true]; rfl
                · rcases List.mem_cons.1 (show z ∈ [y0, y0] from hz) with h | h
                  · rw [h]; exact y0ok.ext hGY
                  · rw [List.mem_singleton.1 h]; exact y0ok.ext hGY
              have LBok : IvOk Z (.mk true [] (.slice (some ⟨bB, 0, none⟩) 2 2) [y0, y0]) := by
                refine .mk _ ⟨some ⟨bB, 0, none⟩, 2, rfl, .inr ⟨bB, 0, rfl, ?_⟩⟩ (show 2 ≤ 1099511627776 by decide) fun z hz => ?_
                · show cellsAt Z bB 0 6 = some ([y0, y0].flatMap Iv.cells)
                  rw [hc2, hZ]; unfold cellsAt; simp only [findE, if_neg nBA, if_true]; rfl
                · rcases List.mem_cons.1 (show z ∈ [y0, y0] from hz) with h | h
                  · rw [h]; exact y0ok.ext hGY
                  · rw [List.mem_singleton.1 h]; exact y0ok.ext hGY
              rw [← hZ]
              refine useP [] (M := Z) (v := .bool true) (fun M0 hr he => by have := refsame_R LAok LBok M0 hr he; rw [sameI_t (by simp only [Iv.it])] at this; exact this) trivial ?_
              exact ⟨[_, _], hZ, ⟨trivial, trivial, trivial⟩, rfl, upd_self _ _ _, bA, bB, rfl⟩
            · simp only [List.getElem?_toArray, List.getElem?_cons_zero, List.getElem?_cons_succ, Option.some.injEq] at ho; subst ho
              obtain ⟨v23, g23⟩ := hdep 23 (by kernel_rfl)
              replace g23 := g23 150 rfl
              replace v23 : val 23 = _ := v23
              rw [v23] at g23
              simp only [push_cast, seval, reduceCtorEq, List.flatMap_nil, List.flatMap_cons, List.append_nil, List.nil_append, g23]
              exact ⟨[], rfl, trivial, rfl, upd_self _ _ _, rfl⟩
            · simp only [List.getElem?_toArray, List.getElem?_cons_zero, List.getElem?_cons_succ, Option.some.injEq] at ho; subst ho
              obtain ⟨v14, g14⟩ := hdep 14 (by kernel_rfl)
              replace g14 := g14 141 rfl
              rw [show val 14 = _ from v14] at g14
              obtain ⟨v24, g24⟩ := hdep 24 (by kernel_rfl)
              replace g24 := g24 151 rfl
              rw [show val 24 = _ from v24] at g24
              simp only [push_cast, seval, reduceCtorEq, List.flatMap_nil, List.flatMap_cons, List.append_nil, List.nil_append, g14, g24]
              exact ⟨[], rfl, trivial, rfl, upd_self _ _ _, rfl⟩
          · intro val mem hV hQ hap hwr
            obtain ⟨bA, bB, hN23⟩ := hQ 23 (by decide)
            have v25 : val 25 = .bool false := hV 25 (by show 25 < 26; decide)
            have hMM : List.flatMap mem [23] ++ (⟨bK, 0, .vec 29 3 5, KC⟩ :: G) = ⟨bA, 0, .vec 29 3 2, [.bool yl, .string (bs yb), .slice yp yks.length yc, .bool yl, .string (bs yb), .slice yp yks.length yc]⟩ :: ⟨bB, 0, .vec 29 3 2, [.bool yl, .string (bs yb), .slice yp yks.length yc, .bool yl, .string (bs yb), .slice yp yks.length yc]⟩ :: ⟨bK, 0, .vec 29 3 5, KC⟩ :: G := by
              simp only [List.flatMap_cons, List.flatMap_nil, List.append_nil, hN23, List.cons_append, List.nil_append]
            rw [hMM] at hap ⊢
            obtain ⟨fA, fB, -⟩ := freshN_apart (A := [⟨bA, 0, .vec 29 3 2, [.bool yl, .string (bs yb), .slice yp yks.length yc, .bool yl, .string (bs yb), .slice yp yks.length yc]⟩, ⟨bB, 0, .vec 29 3 2, [.bool yl, .string (bs yb), .slice yp yks.length yc, .bool yl, .string (bs yb), .slice yp yks.length yc]⟩]) hap ⟨trivial, trivial, trivial⟩
            have fA' : fresh bA G := fA.2.2
            have fB' : fresh bB G := fB.2.2
            have zA := fresh_findS fA' g15
            have zB := fresh_findS fB' g15
            clear hV hQ hwr hMM hN23
            simp only [push_cast, seval, reduceCtorEq, dstsL, v25, zA, zB, z4, g15]
            have hyv0 : y0.v = .agg #[.bool yl, .string (bs yb), .slice yp yks.length yc] := by rw [hy0]; rfl
            refine useP [_, _, _] (M := G) (v := .tuple #[.string (bs E), .int .i64 0]) (fun M0 hr he => by have := refenc_R y0ok (by omega) M0 hr he; rw [hyv0, y0it, henc] at this; exact this) ⟨fA', fB', fKG, trivial⟩ ?_
            obtain ⟨k, hk'⟩ : ∃ k, k = pickN at_ ((E.length : Int) + 1) := ⟨_, rfl⟩
            have hkl := pickN_lt at_ (show (0 : Int) < (E.length : Int) + 1 by omega)
            rw [← hk'] at hkl
            have hkl2 : k ≤ E.length := by omega
            have e0 : ((E.length : Int) + 1 == 0) = false := by rw [beq_eq_false_iff_ne]; omega
            have e2 : i64B ((E.length : Int) + 1) = true := i64B_in ⟨by omega, by omega⟩
            have e3 : posB ((E.length : Int) + 1) = true := posB_in (by omega)
            obtain ⟨q, hq⟩ : ∃ q, q = min s.length 9 := ⟨_, rfl⟩
            have hqI : (if 9 < (s.length : Int) then 9 else (s.length : Int)) = (q : Int) := by split <;> omega
            have q1 : q ≤ s.length := by omega
            have q1' : (q : Int) ≤ (s.length : Int) := by omega
            have k1 : (k : Int) ≤ (E.length : Int) := by omega
            have tl : (List.take q s).length = q := by rw [List.length_take]; omega
            obtain ⟨u, hu⟩ : ∃ u, u = min (k + q) E.length := ⟨_, rfl⟩
            have huI : (if (E.length : Int) < (k : Int) + (q : Int) then (E.length : Int) else (k : Int) + (q : Int)) = (u : Int) := by split <;> omega
            have u1 : u ≤ E.length := by omega
            have u1' : (u : Int) ≤ (E.length : Int) := by omega
            obtain ⟨A, hA⟩ : ∃ A, A = List.take k E ++ List.take q s := ⟨_, rfl⟩
            have hAl : A.length ≤ 40969 := by rw [hA, List.length_append, List.length_take, tl]; omega
            have cat1 : catB (bs (List.take k E)) (bs (List.take q s)) = some (.string (bs A)) := by rw [hA]; exact ncatB _ _ (by rw [List.length_take, tl]; omega)
            obtain ⟨Y2, hY2⟩ : ∃ Y2, Y2 = A ++ List.take (E.length - k) (List.drop k E) := ⟨_, rfl⟩
            have hY2l : Y2.length ≤ 90000 := by rw [hY2, List.length_append, List.length_take]; omega
            have cat2 : catB (bs A) (bs (List.take (E.length - k) (List.drop k E))) = some (.string (bs Y2)) := by rw [hY2]; exact ncatB _ _ (by rw [List.length_take]; omega)
            obtain ⟨Y3, hY3⟩ : ∃ Y3, Y3 = A ++ List.take (E.length - u) (List.drop u E) := ⟨_, rfl⟩
            have hY3l : Y3.length ≤ 90000 := by rw [hY3, List.length_append, List.length_take]; omega
            have cat3 : catB (bs A) (bs (List.take (E.length - u) (List.drop u E))) = some (.string (bs Y3)) := by rw [hY3]; exact ncatB _ _ (by rw [List.length_take]; omega)
            have hTk : (List.take k E).length ≤ 90000 := by rw [List.length_take]; omega
            simp only [push_cast, seval, reduceCtorEq, e0, e1, e2, e3, wrap_i64' (show -9223372036854775808 ≤ (E.length : Int) + 1 ∧ (E.length : Int) + 1 ≤ 9223372036854775807 by omega), ← hk', k1, hkl2, hqI, q1, q1', tl, wrap_i64' (show -9223372036854775808 ≤ (k : Int) + (q : Int) ∧ (k : Int) + (q : Int) ≤ 9223372036854775807 by omega), huI, u1, u1', cat1, cat2, cat3]
            intro bV hbV
            have fV : fresh bV G := hbV.2.2.2.2.2.2
            try simp only [push_cast, seval, reduceCtorEq, hbV]
            refine loopO gO11_ok (pl := plRT) Tryz.mix (X := {x : Nat × Hp // ErrR x.2 ∧ marksOf x.2 = [] ∧ fresh bV x.2})
              (fun x => ([(13, .bool true), (197, .slice (some ⟨bV, 0, none⟩) 5 5), (198, .int .i64 5), (199, .int .i64 (x.1.1 : Int))], ⟨bV, 0, .vec 9 1 5, [.string (bs TX), .string (bs E), .string (bs Y2), .string (bs Y3), .string (bs (List.take k E))]⟩ :: x.1.2))
              (fun x => x.1.1 ≤ 5) (fun x => 5 - x.1.1) ⟨(0, G), hk1.ext hxG, mG, fV⟩ ?_ ?_ (by kernel_rfl) ?_
            · exact Nat.zero_le _
            · simp only [push_cast, seval, reduceCtorEq]
              exact subH_skip6 fA' (subH_skip6 fB' (subH_skip6 fKG (subH_self _)))
            · rintro ⟨⟨i, M2⟩, hk2', hm2, f2⟩ hi
              dsimp only at hk2' hm2 f2 hi ⊢
              rcases Nat.lt_or_ge i 5 with hlt | hge
              · have i1 : (i : Int) < 5 := by omega
                obtain ⟨Z, hZl, hZ⟩ : ∃ Z : List UInt8, Z.length ≤ 90000 ∧ List.take 1 (List.drop i [Value.string (bs TX), .string (bs E), .string (bs Y2), .string (bs Y3), .string (bs (List.take k E))]) = [.string (bs Z)] := by
                  obtain rfl | rfl | rfl | rfl | rfl : i = 0 ∨ i = 1 ∨ i = 2 ∨ i = 3 ∨ i = 4 := by omega
                  · exact ⟨TX, by omega, rfl⟩
                  · exact ⟨E, by omega, rfl⟩
                  · exact ⟨Y2, hY2l, rfl⟩
                  · exact ⟨Y3, hY3l, rfl⟩
                  · exact ⟨List.take k E, hTk, rfl⟩
                have i2 : i ≤ 4 := by omega
                simp only [push_cast, seval, reduceCtorEq, i1, hlt, i2, hZ]
                refine useL [_] (decode_ok hk2' Z (by omega)) (DecQ.rd _) hm2 ⟨f2, trivial⟩ fun v M3 hg3 hL3 hq3 => ?_
                obtain ⟨ya, ea, na, rfl, hda, hya⟩ := hq3
                have hm3 := hg3.marks
                have hk3 := hk2'.ext hg3.ext
                have f3 : fresh bV M3 := hL3.1
                obtain ⟨al, ab, ap, an, ac, hav⟩ := hya.opn
                simp only [push_cast, seval, reduceCtorEq, hav]
                intro b33 hb33
                try simp only [push_cast, seval, reduceCtorEq, hb33]
                have f33 : fresh b33 M3 := hb33.2.2
                refine useL [_, _] (refdecode_ok (M := M3) Z (by omega)) (DecQ.rd _) hm3 ⟨f33, f3, trivial⟩ fun v M4 hg4 hL4 hq4 => ?_
                obtain ⟨yb', eb, nb, rfl, hdb, hyb⟩ := hq4
                have hm4 := hg4.marks
                have hk4 := hk3.ext hg4.ext
                have f33' : fresh b33 M4 := hL4.1
                have f4 : fresh bV M4 := hL4.2.1
                obtain ⟨bl, bb, bp', bn, bc, hbv⟩ := hyb.opn
                have hya4 := hya.ext hg4.ext
                have heq := hda.symm.trans hdb
                injection heq with hit heq
                injection heq with hee hnn
                subst hee hnn
                simp only [push_cast, seval, reduceCtorEq, hbv, hb33]
                intro b36 hb36
                try simp only [push_cast, seval, reduceCtorEq, hb33, hb36]
                have f36 : fresh b36 M4 := hb36.2.2.2.2
                refine useP [_, _, _] (M := M4) (v := .bool true) (fun M0 hr he => by have := refsame_R hya4 hyb M0 hr he; rw [sameI_t hit, hav, hbv] at this; exact this) ⟨f36, f33', f4, trivial⟩ ?_
                have r1 : ((ea : Int) != (ea : Int)) = false := bne_self_eq_false _
                have r2 : ((na : Int) != (na : Int)) = false := bne_self_eq_false _
                simp only [push_cast, seval, reduceCtorEq, hb33, hb36, r1, r2, wrap_i64' (show -9223372036854775808 ≤ (i : Int) + 1 ∧ (i : Int) + 1 ≤ 9223372036854775807 by omega)]
                exact ⟨⟨(i + 1, M4), hk4, hm4, f4⟩, hlt, by dsimp only; omega, rfl, subH_skip6 f36 (subH_skip6 f33' (subH_self _)), rfl⟩
              · obtain rfl : i = 5 := by omega
                simp only [push_cast, seval, reduceCtorEq, Int.lt_irrefl]
end Go.Proofs.YtolmipnaheifcaaGreatDoor
