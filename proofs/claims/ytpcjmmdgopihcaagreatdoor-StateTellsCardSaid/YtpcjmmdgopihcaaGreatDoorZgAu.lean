/- Texts of this claim, merged by program: Il Im Nk Oc Od Wk. -/
import Derived.Test.YtpcjmmdgopihcaaGreatDoorZgAt
import Derived.Test.YtpcjmmdgopihcaaGreatDoorZgAs
import Derived.Test.YtpcjmmdgopihcaaGreatDoorZgAl
import Derived.Test.YtpcjmmdgopihcaaGreatDoorZgAe
import Derived.LaidEql
import Derived.Stop.Asserts
import Derived.RowKitTokens
import Derived.Test.YtpcjmmdgopihcaaGreatDoorZgAp
set_option linter.unusedSimpArgs false
set_option linter.unusedVariables false
set_option maxRecDepth 100000
set_option maxHeartbeats 4000000
namespace Go.Ev
def DoR (r : List Ac × Ch × Int) : Value → Hp → Prop := fun v H => ∃ w, v = .tuple #[w, r.2.1.v, .int .i64 r.2.2] ∧ StR r.1 w H
theorem DoR.rd (r : List Ac × Ch × Int) : RdOnly (DoR r) := by
 rintro v A B h ⟨w, rfl, h1⟩
 exact ⟨w, rfl, StR.rd _ _ _ _ h h1⟩
def SetR (r : List Ac × Int) : Value → Hp → Prop := fun v H => ∃ w, v = .tuple #[w, .int .i64 r.2] ∧ StR r.1 w H
theorem SetR.rd (r : List Ac × Int) : RdOnly (SetR r) := by
 rintro v A B h ⟨w, rfl, h1⟩
 exact ⟨w, rfl, StR.rd _ _ _ _ h h1⟩
theorem CallsV.pin {P : Program} {g : FuncId} {args : List Value} {H H' : Hp} {K : Value → Hp → Prop} (hp : H.Perm H') (hm : marksOf H' = marksOf H) (hc : CallsV P g args H' K) : CallsV P g args H K :=
 ⟨hc.1, fun w0 mu w hs => by have := hc.2 w0 mu w (hs.perm hp); rwa [hm] at this⟩
theorem adE_cells : adE.cells = [.int .u8 5, .int .u8 0, .int .u8 0, .int .u8 0, .int .u8 0, .int .u8 0, .int .u8 0, .int .u8 0, .int .u8 0, .int .u8 0, .int .u8 0, .int .u8 0, .int .u8 0, .int .u8 0, .int .u8 0, .int .u8 0, .int .u8 0, .int .u8 0, .int .u8 0, .int .u8 0] := rfl
theorem takeP8 {P : Program} {g : FuncId} {args : List Value} (L : Hp) {M : Hp} {v : Value} {K : Value → Prop} (hc : ∀ M0, roM M0 → cellsAt M0 = cellsAt M → CallsV P g args M0 (Ret0 v)) (hL : freshN L M) (hk : K v) : TakeV P g args (L ++ M) K := TakeV.mk (derE_behind hL) (hc (roAll M) (roAll_ro M) (cellsAt_roAll M)) hk
end Go.Ev
namespace Go.Proofs.YtpcjmmdgopihcaaGreatDoor
open Go Go.Ev Go.Proofs
theorem sdo_R {M : Hp} {s : List Ac} {v : Value} {c : Ch} (hv : StR s v M) (hn : s.length ≤ 1000000000) (hsl : ∀ y ∈ s, y.slots.length ≤ 2199023255551) : CallsR Tryz.prog 25 [v, c.v] M (DoR (doS s c)) :=
 (sdo_ok hv hn hsl).toR fun v N1 A _ _ hf hq => by
  obtain ⟨w, rfl, hq⟩ := hq
  exact ⟨w, rfl, hq.r hf⟩
theorem sset_R {M : Hp} {s : List Ac} {v sv : Value} {x : Ac} (hv : StR s v M) (hx : LiR Sl.cells 8 M x.slots sv) (hn : s.length ≤ 1000000000) : CallsR Tryz.prog 22 [v, .agg (x.cells sv).toArray] M (SetR (setS s x)) :=
 (sset_ok hv hx hn).toR fun v N1 A _ _ hf hq => by
  obtain ⟨w, rfl, hq⟩ := hq
  exact ⟨w, rfl, hq.r hf⟩
def plAwk08 : Plans := fun i => if i = 3 then [] else if i = 4 then [(0, 9)] else if i = 5 then [] else if i = 6 then [(0, 9)] else if i = 10 then [(0, 9)] else if i = 12 then [] else Tryz.pl9 i
attribute [push_cast] plAwk08
theorem awk08_ok {M : Hp} (hk : KonR M) (hm : marksOf M = []) : CallsV Tryz.prog 9 [] M (Ret0 (.bool true)) := by
 have k5 : i64In 5 := by decide
 have e5 : W.ofInt 5 = e5w := rfl
 have kk1 : i64In 1 := by decide
 have ee1 : W.ofInt 1 = e1w := rfl
 have kk2 : i64In 2 := by decide
 have ee2 : W.ofInt 2 = e2w := rfl
 refine callsO gV2_ok Tryz.mix plAwk08 Tryz.func9 rfl Tryz.ntmps9 Tryz.results9 rfl (by first | rfl | assumption) (Nat.le_of_ble_eq_true rfl) (by kernel_rfl) ?_
 simp only [push_cast, seval, reduceCtorEq]
 intro b2 hb2
 simp only [push_cast, seval, reduceCtorEq, ← adE_cells, Ad.agg, k5]
 have f2 : fresh b2 M := hb2
 have hLX : freshN [⟨b2, 0, .cel 25, adE.cells⟩] M := ⟨f2, trivial⟩
 have fB2 : findE (⟨b2, 0, .cel 25, adE.cells⟩ :: M) b2 = some ⟨b2, 0, .cel 25, adE.cells⟩ := by simp only [push_cast, seval, reduceCtorEq]
 refine drawS gV2_ok Tryz.mix [(1, .func (.func 29) #[] #[]), (2, .pointer (some ⟨b2, 0, none⟩))]
   (fun i val => match i with
    | 0 => val 0 = adE.v
    | 1 => val 1 = .func (.func 29) #[] #[]
    | 2 => val 2 = e5w.v
    | 3 => val 3 = cE5.v
    | 4 => ∃ p k, val 4 = .tuple #[.slice p 1 k, uE5.v, .int .i64 0]
    | 5 => val 5 = val 4 ∧ ∃ p k, val 4 = .tuple #[.slice p 1 k, uE5.v, .int .i64 0]
    | 6 => ∃ p k, val 6 = .slice p 1 k ∧ val 5 = .tuple #[val 6, uE5.v, .int .i64 0]
    | 7 => val 7 = uE5.v
    | 8 => val 8 = .int .i64 0
    | 9 => ∃ b, val 9 = .pointer (some ⟨b, 0, none⟩)
    | 10 => ∃ p k, val 10 = .slice p 1 k ∧ val 6 = val 10
    | 12 => val 12 = .int .i64 0
    | _ => True)
   (fun i val N => match i with
    | 4 => allWr N ∧ marksOf N = [] ∧ ∃ w, val 4 = .tuple #[w, uE5.v, .int .i64 0] ∧ StR [xE5] w (N ++ M)
    | 5 => N = []
    | 6 => N = []
    | 9 => ∃ b, val 9 = .pointer (some ⟨b, 0, none⟩) ∧ N = [⟨b, 0, .cel 33, Ch.zero.cells⟩]
    | 10 => N = []
    | 11 => ∃ b, val 9 = .pointer (some ⟨b, 0, none⟩) ∧ N = [⟨b, 0, .cel 33, uE5.cells⟩]
    | _ => N = []) (fun i => if i = 11 then [9] else []) [4, 11] (by kernel_rfl) (by kernel_rfl) (by kernel_rfl) ?_ (by rfl) (by decide) (by kernel_rfl) ?_ ?_ ?_ ?_ ?_
 · simp only [push_cast, seval, reduceCtorEq, subT]
 · intro i hi hiF
   replace hi : i < 13 := hi
   obtain rfl | rfl | rfl | rfl | rfl | rfl | rfl | rfl | rfl | rfl | rfl | rfl | rfl : i = 0 ∨ i = 1 ∨ i = 2 ∨ i = 3 ∨ i = 4 ∨ i = 5 ∨ i = 6 ∨ i = 7 ∨ i = 8 ∨ i = 9 ∨ i = 10 ∨ i = 11 ∨ i = 12 := by omega
   all_goals first
    | exact .inl fun _ _ h => h
    | exact absurd (by decide) hiF
    | exact .inr (by kernel_rfl)
 · intro i o ho val val' h1 h2 hV
   have hi := (Array.getElem?_eq_some_iff.1 ho).1
   replace hi : i < 13 := hi
   obtain rfl | rfl | rfl | rfl | rfl | rfl | rfl | rfl | rfl | rfl | rfl | rfl | rfl : i = 0 ∨ i = 1 ∨ i = 2 ∨ i = 3 ∨ i = 4 ∨ i = 5 ∨ i = 6 ∨ i = 7 ∨ i = 8 ∨ i = 9 ∨ i = 10 ∨ i = 11 ∨ i = 12 := by omega
   · first
      | exact trivial
      | exact hV
      | exact h1.trans hV
      | (rw [h1]; exact hV)
   · first
      | exact trivial
      | exact hV
      | exact h1.trans hV
      | (rw [h1]; exact hV)
   · first
      | exact trivial
      | exact hV
      | exact h1.trans hV
      | (rw [h1]; exact hV)
   · first
      | exact trivial
      | exact hV
      | exact h1.trans hV
      | (rw [h1]; exact hV)
   · first
      | exact trivial
      | exact hV
      | exact h1.trans hV
      | (rw [h1]; exact hV)
   · simp only [List.getElem?_toArray, List.getElem?_cons_zero, List.getElem?_cons_succ, Option.some.injEq] at ho; subst ho
     have h5 := h2 4 (by kernel_rfl)
     obtain ⟨a1, a2⟩ := hV
     exact ⟨by rw [h1, h5]; exact a1, by rw [h5]; exact a2⟩
   · simp only [List.getElem?_toArray, List.getElem?_cons_zero, List.getElem?_cons_succ, Option.some.injEq] at ho; subst ho
     have h6 := h2 5 (by kernel_rfl)
     obtain ⟨p, k, a1, a2⟩ := hV
     exact ⟨p, k, by rw [h1]; exact a1, by rw [h6, h1]; exact a2⟩
   · first
      | exact trivial
      | exact hV
      | exact h1.trans hV
      | (rw [h1]; exact hV)
   · first
      | exact trivial
      | exact hV
      | exact h1.trans hV
      | (rw [h1]; exact hV)
   · first
      | exact trivial
      | exact hV
      | exact h1.trans hV
      | (rw [h1]; exact hV)
   · simp only [List.getElem?_toArray, List.getElem?_cons_zero, List.getElem?_cons_succ, Option.some.injEq] at ho; subst ho
     have h6 := h2 6 (by kernel_rfl)
     obtain ⟨p, k, a1, a2⟩ := hV
     exact ⟨p, k, by rw [h1]; exact a1, by rw [h6, h1]; exact a2⟩
   · first
      | exact trivial
      | exact hV
      | exact h1.trans hV
      | (rw [h1]; exact hV)
   · first
      | exact trivial
      | exact hV
      | exact h1.trans hV
      | (rw [h1]; exact hV)
 · intro i o ho val val' N h1 h2 hQ
   have hi := (Array.getElem?_eq_some_iff.1 ho).1
   replace hi : i < 13 := hi
   obtain rfl | rfl | rfl | rfl | rfl | rfl | rfl | rfl | rfl | rfl | rfl | rfl | rfl : i = 0 ∨ i = 1 ∨ i = 2 ∨ i = 3 ∨ i = 4 ∨ i = 5 ∨ i = 6 ∨ i = 7 ∨ i = 8 ∨ i = 9 ∨ i = 10 ∨ i = 11 ∨ i = 12 := by omega
   · first
      | exact trivial
      | exact hQ
      | exact h1.trans hQ
      | (rw [h1]; exact hQ)
   · first
      | exact trivial
      | exact hQ
      | exact h1.trans hQ
      | (rw [h1]; exact hQ)
   · first
      | exact trivial
      | exact hQ
      | exact h1.trans hQ
      | (rw [h1]; exact hQ)
   · first
      | exact trivial
      | exact hQ
      | exact h1.trans hQ
      | (rw [h1]; exact hQ)
   · first
      | exact trivial
      | exact hQ
      | exact h1.trans hQ
      | (rw [h1]; exact hQ)
   · first
      | exact trivial
      | exact hQ
      | exact h1.trans hQ
      | (rw [h1]; exact hQ)
   · first
      | exact trivial
      | exact hQ
      | exact h1.trans hQ
      | (rw [h1]; exact hQ)
   · first
      | exact trivial
      | exact hQ
      | exact h1.trans hQ
      | (rw [h1]; exact hQ)
   · first
      | exact trivial
      | exact hQ
      | exact h1.trans hQ
      | (rw [h1]; exact hQ)
   · first
      | exact trivial
      | exact hQ
      | exact h1.trans hQ
      | (rw [h1]; exact hQ)
   · first
      | exact trivial
      | exact hQ
      | exact h1.trans hQ
      | (rw [h1]; exact hQ)
   · simp only [List.getElem?_toArray, List.getElem?_cons_zero, List.getElem?_cons_succ, Option.some.injEq] at ho; subst ho
     have h10 := h2 9 (by kernel_rfl)
     obtain ⟨b, a1, a3⟩ := hQ
     exact ⟨b, by rw [h10]; exact a1, a3⟩
   · first
      | exact trivial
      | exact hQ
      | exact h1.trans hQ
      | (rw [h1]; exact hQ)
 · intro i o ho T' Y val mem hT hdep hus hfr hY hmY hapY
   have hi := (Array.getElem?_eq_some_iff.1 ho).1
   replace hi : i < 13 := hi
   have y2 := hY _ _ fB2
   have hM0Y : ∀ b e, findE M b = some e → findE Y b = some e := fun b e h => hY b e (find_behind hLX b e h)
   have t2 : getT T' 2 = some (.pointer (some ⟨b2, 0, none⟩)) := hT.2.1
   have t1 : getT T' 1 = some (.func (.func 29) #[] #[]) := hT.1
   obtain rfl | rfl | rfl | rfl | rfl | rfl | rfl | rfl | rfl | rfl | rfl | rfl | rfl : i = 0 ∨ i = 1 ∨ i = 2 ∨ i = 3 ∨ i = 4 ∨ i = 5 ∨ i = 6 ∨ i = 7 ∨ i = 8 ∨ i = 9 ∨ i = 10 ∨ i = 11 ∨ i = 12 := by omega
   · simp only [List.getElem?_toArray, List.getElem?_cons_zero, List.getElem?_cons_succ, Option.some.injEq] at ho; subst ho
     simp only [push_cast, seval, reduceCtorEq, List.flatMap_nil, List.flatMap_cons, List.append_nil, List.nil_append, t2, y2]
     exact ⟨[], rfl, trivial, rfl, upd_self _ _ _, rfl⟩
   · simp only [List.getElem?_toArray, List.getElem?_cons_zero, List.getElem?_cons_succ, Option.some.injEq] at ho; subst ho
     simp only [push_cast, seval, reduceCtorEq, List.flatMap_nil, List.flatMap_cons, List.append_nil, List.nil_append, t1]
     exact ⟨[], rfl, trivial, rfl, upd_self _ _ _, rfl⟩
   · simp only [List.getElem?_toArray, List.getElem?_cons_zero, List.getElem?_cons_succ, Option.some.injEq] at ho; subst ho
     obtain ⟨v1, g1⟩ := hdep 1 (by kernel_rfl)
     replace g1 := g1 23 rfl
     rw [show val 1 = _ from v1] at g1
     simp only [push_cast, seval, reduceCtorEq, List.flatMap_nil, List.flatMap_cons, List.append_nil, List.nil_append, g1, k5, e5]
     exact ⟨[], rfl, trivial, rfl, upd_self _ _ _, rfl⟩
   · simp only [List.getElem?_toArray, List.getElem?_cons_zero, List.getElem?_cons_succ, Option.some.injEq] at ho; subst ho
     obtain ⟨v0, g0⟩ := hdep 0 (by kernel_rfl)
     replace g0 := g0 22 rfl
     rw [show val 0 = _ from v0] at g0
     obtain ⟨v2, g2⟩ := hdep 2 (by kernel_rfl)
     replace g2 := g2 24 rfl
     rw [show val 2 = _ from v2] at g2
     simp only [push_cast, seval, reduceCtorEq, List.flatMap_nil, List.flatMap_cons, List.append_nil, List.nil_append, g0, g2]
     exact ⟨[], rfl, trivial, rfl, upd_self _ _ _, rfl⟩
   · simp only [List.getElem?_toArray, List.getElem?_cons_zero, List.getElem?_cons_succ, Option.some.injEq] at ho; subst ho
     obtain ⟨v3, g3⟩ := hdep 3 (by kernel_rfl)
     replace g3 := g3 25 rfl
     rw [show val 3 = _ from v3] at g3
     simp only [push_cast, seval, reduceCtorEq, List.flatMap_nil, List.flatMap_cons, List.append_nil, List.nil_append, g3]
     refine callS (M := M) (by have := sdo_R (s := []) (c := cE5) (v := .slice none 0 0) (StR.nil M 0) (by decide) (fun y hy => by cases hy); rw [doE5] at this; exact this) (DoR.rd _) hM0Y fun w N hw hm1 hf hq => ⟨N, rfl, hw, hm1, ?_, ?_⟩
     · obtain ⟨u, rfl, hq⟩ := hq
       obtain ⟨p1, k1, rfl⟩ := hq.slice
       exact ⟨p1, k1, by rw [upd_self]; rfl⟩
     · rw [upd_self]; exact ⟨hw, hm1, hq⟩
   · simp only [List.getElem?_toArray, List.getElem?_cons_zero, List.getElem?_cons_succ, Option.some.injEq] at ho; subst ho
     obtain ⟨v4, g4⟩ := hdep 4 (by kernel_rfl)
     replace g4 := g4 26 rfl
     have v40 := v4
     simp only [push_cast, seval, reduceCtorEq, List.flatMap_nil, List.flatMap_cons, List.append_nil, List.nil_append, g4]
     refine ⟨[], rfl, trivial, rfl, ⟨?_, ?_⟩, rfl⟩
     · simp [upd]
     · simpa [upd] using v40
   · simp only [List.getElem?_toArray, List.getElem?_cons_zero, List.getElem?_cons_succ, Option.some.injEq] at ho; subst ho
     obtain ⟨v5, g5⟩ := hdep 5 (by kernel_rfl)
     replace g5 := g5 21 rfl
     obtain ⟨v5, p, k, v4⟩ := v5
     have v5 : val 5 = _ := v5
     rw [v5, v4] at g5
     simp only [push_cast, seval, reduceCtorEq, List.flatMap_nil, List.flatMap_cons, List.append_nil, List.nil_append, g5]
     refine ⟨[], rfl, trivial, rfl, ⟨p, k, ?_, ?_⟩, rfl⟩
     · simp [upd]
     · simp [upd, v5, v4]
   · simp only [List.getElem?_toArray, List.getElem?_cons_zero, List.getElem?_cons_succ, Option.some.injEq] at ho; subst ho
     obtain ⟨v5, g5⟩ := hdep 5 (by kernel_rfl)
     replace g5 := g5 21 rfl
     obtain ⟨v5, p, k, v4⟩ := v5
     have v5 : val 5 = _ := v5
     rw [v5, v4] at g5
     simp only [push_cast, seval, reduceCtorEq, List.flatMap_nil, List.flatMap_cons, List.append_nil, List.nil_append, g5]
     exact ⟨[], rfl, trivial, rfl, upd_self _ _ _, rfl⟩
   · simp only [List.getElem?_toArray, List.getElem?_cons_zero, List.getElem?_cons_succ, Option.some.injEq] at ho; subst ho
     obtain ⟨v5, g5⟩ := hdep 5 (by kernel_rfl)
     replace g5 := g5 21 rfl
     obtain ⟨v5, p, k, v4⟩ := v5
     have v5 : val 5 = _ := v5
     rw [v5, v4] at g5
     simp only [push_cast, seval, reduceCtorEq, List.flatMap_nil, List.flatMap_cons, List.append_nil, List.nil_append, g5]
     exact ⟨[], rfl, trivial, rfl, upd_self _ _ _, rfl⟩
   · simp only [List.getElem?_toArray, List.getElem?_cons_zero, List.getElem?_cons_succ, Option.some.injEq] at ho; subst ho
     simp only [push_cast, seval, reduceCtorEq, List.flatMap_nil, List.flatMap_cons, List.append_nil, List.nil_append]
     intro b hf
     exact ⟨[_], rfl, ⟨trivial, trivial⟩, rfl, ⟨b, upd_self _ _ _⟩, b, upd_self _ _ _, rfl⟩
   · simp only [List.getElem?_toArray, List.getElem?_cons_zero, List.getElem?_cons_succ, Option.some.injEq] at ho; subst ho
     obtain ⟨v6, g6⟩ := hdep 6 (by kernel_rfl)
     replace g6 := g6 27 rfl
     obtain ⟨p, k, v6, -⟩ := v6
     have v6 : val 6 = _ := v6
     rw [v6] at g6
     simp only [push_cast, seval, reduceCtorEq, List.flatMap_nil, List.flatMap_cons, List.append_nil, List.nil_append, g6]
     refine ⟨[], rfl, trivial, rfl, ⟨p, k, ?_, ?_⟩, rfl⟩
     · simp [upd]
     · simp [upd, v6]
   · simp only [List.getElem?_toArray, List.getElem?_cons_zero, List.getElem?_cons_succ, Option.some.injEq] at ho; subst ho
     obtain ⟨v7, g7⟩ := hdep 7 (by kernel_rfl)
     replace g7 := g7 28 rfl
     rw [show val 7 = _ from v7] at g7
     obtain ⟨v9, g9⟩ := hdep 9 (by kernel_rfl)
     replace g9 := g9 4 rfl
     obtain ⟨b7, v9, hN⟩ := hus 9 (List.mem_singleton.2 rfl)
     have v9 : val 9 = _ := v9
     rw [v9] at g9
     simp only [push_cast, seval, reduceCtorEq, List.flatMap_nil, List.flatMap_cons, List.append_nil, List.nil_append, g7, g9, hN, List.cons_append, Ch.zero.len, (uE5).len, (show (uE5).cells.all oneC = true from rfl)]
     refine ⟨[_], rfl, ⟨trivial, trivial⟩, rfl, b7, ?_, rfl⟩
     · simp [upd, v9]
   · simp only [List.getElem?_toArray, List.getElem?_cons_zero, List.getElem?_cons_succ, Option.some.injEq] at ho; subst ho
     obtain ⟨v8, g8⟩ := hdep 8 (by kernel_rfl)
     replace g8 := g8 29 rfl
     rw [show val 8 = _ from v8] at g8
     simp only [push_cast, seval, reduceCtorEq, List.flatMap_nil, List.flatMap_cons, List.append_nil, List.nil_append, g8]
     exact ⟨[], rfl, trivial, rfl, upd_self _ _ _, rfl⟩
 · intro val mem hV hQ hap hwr
   obtain ⟨w4, m4, u4, hu4, hq4⟩ := hQ 4 (by decide)
   obtain ⟨b4, v9, hN11⟩ := hQ 11 (by decide)
   obtain ⟨p1, k1, v10, h610⟩ := hV 10 (by decide)
   obtain ⟨h5, -⟩ := hV 5 (by decide)
   obtain ⟨-, -, -, h65⟩ := hV 6 (by decide)
   have v12 : val 12 = .int .i64 0 := hV 12 (by decide)
   have v9 : val 9 = _ := v9
   have v10 : val 10 = _ := v10
   have h610 : val 6 = val 10 := h610
   have hu4 : val 4 = _ := hu4
   have h5 : val 5 = val 4 := h5
   have h65 : val 5 = .tuple #[val 6, uE5.v, .int .i64 0] := h65
   rw [h5, hu4, h610, v10] at h65
   have hs5 : u4 = .slice p1 1 k1 := by injection h65 with h; have h1 := congrArg Array.toList h; simp only [List.cons.injEq] at h1; exact h1.1
   subst hs5
   have hMM : List.flatMap mem [4, 11] ++ (⟨b2, 0, .cel 25, adE.cells⟩ :: M) = mem 4 ++ (⟨b4, 0, .cel 33, uE5.cells⟩ :: ⟨b2, 0, .cel 25, adE.cells⟩ :: M) := by
    simp only [List.flatMap_cons, List.flatMap_nil, List.append_nil, hN11, List.append_assoc, List.cons_append, List.nil_append]
   rw [hMM] at hap ⊢
   have a5 := freshN_apart hap w4
   have hap' := (List.pairwise_append.1 hap).2.1
   have a7 := freshN_apart (A := [⟨b4, 0, .cel 33, uE5.cells⟩]) hap' ⟨trivial, trivial⟩
   have q57 := freshN_sym a5
   have hb4 := a7.1
   simp only [push_cast, seval, reduceCtorEq] at hb4
   have f4 : fresh b4 (M ++ mem 4) := fresh_app_iff.2 ⟨hb4.2.2, q57.1⟩
   have f2 : fresh b2 (M ++ mem 4) := fresh_app_iff.2 ⟨f2, q57.2.1⟩
   have hg1 : Gr M (M ++ mem 4) := ⟨hm, mem 4, rfl, w4, m4⟩
   have hs1 : StR [xE5] (.slice p1 1 k1) (M ++ mem 4) := StR.rd _ _ _ _ (cellsAt_swap (freshN_cons (freshN_cons a5))) hq4
   simp only [push_cast, seval, reduceCtorEq, v9, v10, v12]
   refine WpV.perm (H' := ⟨b4, 0, .cel 33, uE5.cells⟩ :: ⟨b2, 0, .cel 25, adE.cells⟩ :: (M ++ mem 4)) ?_ ?_ ?_
   · exact List.perm_append_comm
   · simp [marks_append, marksOf, m4, hm]
   refine WpV.slots [(1, .func (.func 29) #[] #[]), (2, .pointer (some ⟨b2, 0, none⟩)), (3, .slice p1 1 k1), (4, .pointer (some ⟨b4, 0, none⟩)), (5, .int .i64 0)] (by simp only [push_cast, seval, reduceCtorEq]) ?_
   generalize M ++ mem 4 = M1 at hg1 hs1 f4 f2 ⊢
   refine regO gV2_ok ?_
   simp only [push_cast, seval, reduceCtorEq, hb4]
   obtain ⟨wU, hwU⟩ := undoE5
   refine useL [_, _] (by have := sdo_R (c := uE5) hs1 (by decide) (fun y hy => by rw [List.mem_singleton.1 hy]; decide); rw [hwU] at this; exact this) (DoR.rd _) hg1.marks ⟨f4, f2, trivial⟩ fun w M2 hg2 hL2 hq => ?_
   obtain ⟨u, rfl, ht⟩ := hq
   have ht : StR [] u M2 := ht
   obtain ⟨pt, kt, rfl⟩ := ht.slice
   have hs1 := hs1.ext hg2.ext
   simp only [push_cast, seval, reduceCtorEq, hb4]
   intro b7 hb7
   try simp only [push_cast, seval, reduceCtorEq, hb4, hb7]
   obtain ⟨f4, f2, -⟩ := id hL2
   have f7 : fresh b7 M2 := hb7.2.2.2.2
   have hm2 := hg2.marks
   have hL7 : freshN [⟨b7, 0, .cel 33, wU.cells⟩, ⟨b4, 0, .cel 33, uE5.cells⟩, ⟨b2, 0, .cel 25, adE.cells⟩] M2 := ⟨f7, f4, f2, trivial⟩
   have fB2 : findE (⟨b7, 0, .cel 33, wU.cells⟩ :: ⟨b4, 0, .cel 33, uE5.cells⟩ :: ⟨b2, 0, .cel 25, adE.cells⟩ :: M2) b2 = some ⟨b2, 0, .cel 25, adE.cells⟩ := by simp only [push_cast, seval, reduceCtorEq, hb7, hb4]
   refine WpV.slots [(1, .func (.func 29) #[] #[]), (2, .pointer (some ⟨b2, 0, none⟩)), (3, .slice p1 1 k1), (4, .pointer (some ⟨b4, 0, none⟩)), (5, .int .i64 0), (6, .slice pt 0 kt), (7, .pointer (some ⟨b7, 0, none⟩)), (8, .int .i64 0)] (by simp only [push_cast, seval, reduceCtorEq]) ?_
   refine drawS gV2_ok Tryz.mix [(1, .func (.func 29) #[] #[]), (2, .pointer (some ⟨b2, 0, none⟩)), (3, .slice p1 1 k1), (4, .pointer (some ⟨b4, 0, none⟩)), (5, .int .i64 0), (6, .slice pt 0 kt), (7, .pointer (some ⟨b7, 0, none⟩)), (8, .int .i64 0)]
     (fun i val => match i with
      | 0 => val 0 = .slice p1 1 k1
      | 1 => val 1 = adE.v
      | 2 => val 2 = .func (.func 29) #[] #[]
      | 3 => val 3 = e1w.v
      | 4 => val 4 = .func (.func 29) #[] #[]
      | 5 => val 5 = e2w.v
      | 6 => val 6 = cE2.v
      | 7 => ∃ p k, val 7 = .tuple #[.slice p 1 k, uE2.v, .int .i64 0]
      | 8 => val 8 = val 7 ∧ ∃ p k, val 7 = .tuple #[.slice p 1 k, uE2.v, .int .i64 0]
      | 9 => ∃ p k, val 9 = .slice p 1 k ∧ val 8 = .tuple #[val 9, uE2.v, .int .i64 0]
      | 10 => val 10 = uE2.v
      | 11 => val 11 = .int .i64 0
      | 12 => ∃ b, val 12 = .pointer (some ⟨b, 0, none⟩)
      | 13 => ∃ p k, val 13 = .slice p 1 k ∧ val 9 = val 13
      | 15 => val 15 = .int .i64 0
      | _ => True)
     (fun i val N => match i with
      | 7 => allWr N ∧ marksOf N = [] ∧ ∃ w, val 7 = .tuple #[w, uE2.v, .int .i64 0] ∧ StR [xE2] w (N ++ M2)
      | 8 => N = []
      | 9 => N = []
      | 12 => ∃ b, val 12 = .pointer (some ⟨b, 0, none⟩) ∧ N = [⟨b, 0, .cel 33, Ch.zero.cells⟩]
      | 13 => N = []
      | 14 => ∃ b, val 12 = .pointer (some ⟨b, 0, none⟩) ∧ N = [⟨b, 0, .cel 33, uE2.cells⟩]
      | _ => N = []) (fun i => if i = 14 then [12] else []) [7, 14] (by kernel_rfl) (by kernel_rfl) (by kernel_rfl) ?_ (by rfl) (by decide) (by kernel_rfl) ?_ ?_ ?_ ?_ ?_
   · simp only [push_cast, seval, reduceCtorEq, subT]
   · intro i hi hiF
     replace hi : i < 16 := hi
     obtain rfl | rfl | rfl | rfl | rfl | rfl | rfl | rfl | rfl | rfl | rfl | rfl | rfl | rfl | rfl | rfl : i = 0 ∨ i = 1 ∨ i = 2 ∨ i = 3 ∨ i = 4 ∨ i = 5 ∨ i = 6 ∨ i = 7 ∨ i = 8 ∨ i = 9 ∨ i = 10 ∨ i = 11 ∨ i = 12 ∨ i = 13 ∨ i = 14 ∨ i = 15 := by omega
     all_goals first
      | exact .inl fun _ _ h => h
      | exact absurd (by decide) hiF
      | exact .inr (by kernel_rfl)
   · intro i o ho val val' h1 h2 hV
     have hi := (Array.getElem?_eq_some_iff.1 ho).1
     replace hi : i < 16 := hi
     obtain rfl | rfl | rfl | rfl | rfl | rfl | rfl | rfl | rfl | rfl | rfl | rfl | rfl | rfl | rfl | rfl : i = 0 ∨ i = 1 ∨ i = 2 ∨ i = 3 ∨ i = 4 ∨ i = 5 ∨ i = 6 ∨ i = 7 ∨ i = 8 ∨ i = 9 ∨ i = 10 ∨ i = 11 ∨ i = 12 ∨ i = 13 ∨ i = 14 ∨ i = 15 := by omega
     · first
        | exact trivial
        | exact hV
        | exact h1.trans hV
        | (rw [h1]; exact hV)
     · first
        | exact trivial
        | exact hV
        | exact h1.trans hV
        | (rw [h1]; exact hV)
     · first
        | exact trivial
        | exact hV
        | exact h1.trans hV
        | (rw [h1]; exact hV)
     · first
        | exact trivial
        | exact hV
        | exact h1.trans hV
        | (rw [h1]; exact hV)
     · first
        | exact trivial
        | exact hV
        | exact h1.trans hV
        | (rw [h1]; exact hV)
     · first
        | exact trivial
        | exact hV
        | exact h1.trans hV
        | (rw [h1]; exact hV)
     · first
        | exact trivial
        | exact hV
        | exact h1.trans hV
        | (rw [h1]; exact hV)
     · first
        | exact trivial
        | exact hV
        | exact h1.trans hV
        | (rw [h1]; exact hV)
     · simp only [List.getElem?_toArray, List.getElem?_cons_zero, List.getElem?_cons_succ, Option.some.injEq] at ho; subst ho
       have h5 := h2 7 (by kernel_rfl)
       obtain ⟨a1, a2⟩ := hV
       exact ⟨by rw [h1, h5]; exact a1, by rw [h5]; exact a2⟩
     · simp only [List.getElem?_toArray, List.getElem?_cons_zero, List.getElem?_cons_succ, Option.some.injEq] at ho; subst ho
       have h6 := h2 8 (by kernel_rfl)
       obtain ⟨p, k, a1, a2⟩ := hV
       exact ⟨p, k, by rw [h1]; exact a1, by rw [h6, h1]; exact a2⟩
     · first
        | exact trivial
        | exact hV
        | exact h1.trans hV
        | (rw [h1]; exact hV)
     · first
        | exact trivial
        | exact hV
        | exact h1.trans hV
        | (rw [h1]; exact hV)
     · first
        | exact trivial
        | exact hV
        | exact h1.trans hV
        | (rw [h1]; exact hV)
     · simp only [List.getElem?_toArray, List.getElem?_cons_zero, List.getElem?_cons_succ, Option.some.injEq] at ho; subst ho
       have h6 := h2 9 (by kernel_rfl)
       obtain ⟨p, k, a1, a2⟩ := hV
       exact ⟨p, k, by rw [h1]; exact a1, by rw [h6, h1]; exact a2⟩
     · first
        | exact trivial
        | exact hV
        | exact h1.trans hV
        | (rw [h1]; exact hV)
     · first
        | exact trivial
        | exact hV
        | exact h1.trans hV
        | (rw [h1]; exact hV)
   · intro i o ho val val' N h1 h2 hQ
     have hi := (Array.getElem?_eq_some_iff.1 ho).1
     replace hi : i < 16 := hi
     obtain rfl | rfl | rfl | rfl | rfl | rfl | rfl | rfl | rfl | rfl | rfl | rfl | rfl | rfl | rfl | rfl : i = 0 ∨ i = 1 ∨ i = 2 ∨ i = 3 ∨ i = 4 ∨ i = 5 ∨ i = 6 ∨ i = 7 ∨ i = 8 ∨ i = 9 ∨ i = 10 ∨ i = 11 ∨ i = 12 ∨ i = 13 ∨ i = 14 ∨ i = 15 := by omega
     · first
        | exact trivial
        | exact hQ
        | exact h1.trans hQ
        | (rw [h1]; exact hQ)
     · first
        | exact trivial
        | exact hQ
        | exact h1.trans hQ
        | (rw [h1]; exact hQ)
     · first
        | exact trivial
        | exact hQ
        | exact h1.trans hQ
        | (rw [h1]; exact hQ)
     · first
        | exact trivial
        | exact hQ
        | exact h1.trans hQ
        | (rw [h1]; exact hQ)
     · first
        | exact trivial
        | exact hQ
        | exact h1.trans hQ
        | (rw [h1]; exact hQ)
     · first
        | exact trivial
        | exact hQ
        | exact h1.trans hQ
        | (rw [h1]; exact hQ)
     · first
        | exact trivial
        | exact hQ
        | exact h1.trans hQ
        | (rw [h1]; exact hQ)
     · first
        | exact trivial
        | exact hQ
        | exact h1.trans hQ
        | (rw [h1]; exact hQ)
     · first
        | exact trivial
        | exact hQ
        | exact h1.trans hQ
        | (rw [h1]; exact hQ)
     · first
        | exact trivial
        | exact hQ
        | exact h1.trans hQ
        | (rw [h1]; exact hQ)
     · first
        | exact trivial
        | exact hQ
        | exact h1.trans hQ
        | (rw [h1]; exact hQ)
     · first
        | exact trivial
        | exact hQ
        | exact h1.trans hQ
        | (rw [h1]; exact hQ)
     · first
        | exact trivial
        | exact hQ
        | exact h1.trans hQ
        | (rw [h1]; exact hQ)
     · first
        | exact trivial
        | exact hQ
        | exact h1.trans hQ
        | (rw [h1]; exact hQ)
     · simp only [List.getElem?_toArray, List.getElem?_cons_zero, List.getElem?_cons_succ, Option.some.injEq] at ho; subst ho
       have h10 := h2 12 (by kernel_rfl)
       obtain ⟨b, a1, a3⟩ := hQ
       exact ⟨b, by rw [h10]; exact a1, a3⟩
     · first
        | exact trivial
        | exact hQ
        | exact h1.trans hQ
        | (rw [h1]; exact hQ)
   · intro i o ho T' Y val mem hT hdep hus hfr hY hmY hapY
     have hi := (Array.getElem?_eq_some_iff.1 ho).1
     replace hi : i < 16 := hi
     have y2 := hY _ _ fB2
     have hM0Y : ∀ b e, findE M2 b = some e → findE Y b = some e := fun b e h => hY b e (find_behind hL7 b e h)
     have t1 : getT T' 1 = some (.func (.func 29) #[] #[]) := hT.1
     have t2 : getT T' 2 = some (.pointer (some ⟨b2, 0, none⟩)) := hT.2.1
     have t3 : getT T' 3 = some (.slice p1 1 k1) := hT.2.2.1
     obtain rfl | rfl | rfl | rfl | rfl | rfl | rfl | rfl | rfl | rfl | rfl | rfl | rfl | rfl | rfl | rfl : i = 0 ∨ i = 1 ∨ i = 2 ∨ i = 3 ∨ i = 4 ∨ i = 5 ∨ i = 6 ∨ i = 7 ∨ i = 8 ∨ i = 9 ∨ i = 10 ∨ i = 11 ∨ i = 12 ∨ i = 13 ∨ i = 14 ∨ i = 15 := by omega
     · simp only [List.getElem?_toArray, List.getElem?_cons_zero, List.getElem?_cons_succ, Option.some.injEq] at ho; subst ho
       simp only [push_cast, seval, reduceCtorEq, List.flatMap_nil, List.flatMap_cons, List.append_nil, List.nil_append, t3]
       exact ⟨[], rfl, trivial, rfl, upd_self _ _ _, rfl⟩
     · simp only [List.getElem?_toArray, List.getElem?_cons_zero, List.getElem?_cons_succ, Option.some.injEq] at ho; subst ho
       simp only [push_cast, seval, reduceCtorEq, List.flatMap_nil, List.flatMap_cons, List.append_nil, List.nil_append, t2, y2]
       exact ⟨[], rfl, trivial, rfl, upd_self _ _ _, rfl⟩
     · simp only [List.getElem?_toArray, List.getElem?_cons_zero, List.getElem?_cons_succ, Option.some.injEq] at ho; subst ho
       simp only [push_cast, seval, reduceCtorEq, List.flatMap_nil, List.flatMap_cons, List.append_nil, List.nil_append, t1]
       exact ⟨[], rfl, trivial, rfl, upd_self _ _ _, rfl⟩
     · simp only [List.getElem?_toArray, List.getElem?_cons_zero, List.getElem?_cons_succ, Option.some.injEq] at ho; subst ho
       obtain ⟨v2, g2⟩ := hdep 2 (by kernel_rfl)
       replace g2 := g2 40 rfl
       rw [show val 2 = _ from v2] at g2
       simp only [push_cast, seval, reduceCtorEq, List.flatMap_nil, List.flatMap_cons, List.append_nil, List.nil_append, g2, kk1, ee1]
       exact ⟨[], rfl, trivial, rfl, upd_self _ _ _, rfl⟩
     · simp only [List.getElem?_toArray, List.getElem?_cons_zero, List.getElem?_cons_succ, Option.some.injEq] at ho; subst ho
       simp only [push_cast, seval, reduceCtorEq, List.flatMap_nil, List.flatMap_cons, List.append_nil, List.nil_append, t1]
       exact ⟨[], rfl, trivial, rfl, upd_self _ _ _, rfl⟩
     · simp only [List.getElem?_toArray, List.getElem?_cons_zero, List.getElem?_cons_succ, Option.some.injEq] at ho; subst ho
       obtain ⟨v4, g4⟩ := hdep 4 (by kernel_rfl)
       replace g4 := g4 42 rfl
       rw [show val 4 = _ from v4] at g4
       simp only [push_cast, seval, reduceCtorEq, List.flatMap_nil, List.flatMap_cons, List.append_nil, List.nil_append, g4, kk2, ee2]
       exact ⟨[], rfl, trivial, rfl, upd_self _ _ _, rfl⟩
     · simp only [List.getElem?_toArray, List.getElem?_cons_zero, List.getElem?_cons_succ, Option.some.injEq] at ho; subst ho
       obtain ⟨v1, g1⟩ := hdep 1 (by kernel_rfl)
       replace g1 := g1 39 rfl
       rw [show val 1 = _ from v1] at g1
       obtain ⟨v3, g3⟩ := hdep 3 (by kernel_rfl)
       replace g3 := g3 41 rfl
       rw [show val 3 = _ from v3] at g3
       obtain ⟨v5, g5⟩ := hdep 5 (by kernel_rfl)
       replace g5 := g5 43 rfl
       rw [show val 5 = _ from v5] at g5
       simp only [push_cast, seval, reduceCtorEq, List.flatMap_nil, List.flatMap_cons, List.append_nil, List.nil_append, g1, g3, g5]
       exact ⟨[], rfl, trivial, rfl, upd_self _ _ _, rfl⟩
     · simp only [List.getElem?_toArray, List.getElem?_cons_zero, List.getElem?_cons_succ, Option.some.injEq] at ho; subst ho
       obtain ⟨v0, g0⟩ := hdep 0 (by kernel_rfl)
       replace g0 := g0 38 rfl
       rw [show val 0 = _ from v0] at g0
       obtain ⟨v6, g6⟩ := hdep 6 (by kernel_rfl)
       replace g6 := g6 44 rfl
       rw [show val 6 = _ from v6] at g6
       simp only [push_cast, seval, reduceCtorEq, List.flatMap_nil, List.flatMap_cons, List.append_nil, List.nil_append, g0, g6]
       refine callS (M := M2) (by have := sdo_R (c := cE2) hs1 (by decide) (fun y hy => by rw [List.mem_singleton.1 hy]; decide); rw [doE2] at this; exact this) (DoR.rd _) hM0Y fun w N hw hm1 hf hq => ⟨N, rfl, hw, hm1, ?_, ?_⟩
       · obtain ⟨u, rfl, hq⟩ := hq
         obtain ⟨p1, k1, rfl⟩ := hq.slice
         exact ⟨p1, k1, by rw [upd_self]; rfl⟩
       · rw [upd_self]; exact ⟨hw, hm1, hq⟩
     · simp only [List.getElem?_toArray, List.getElem?_cons_zero, List.getElem?_cons_succ, Option.some.injEq] at ho; subst ho
       obtain ⟨v7, g7⟩ := hdep 7 (by kernel_rfl)
       replace g7 := g7 45 rfl
       have v70 := v7
       simp only [push_cast, seval, reduceCtorEq, List.flatMap_nil, List.flatMap_cons, List.append_nil, List.nil_append, g7]
       refine ⟨[], rfl, trivial, rfl, ⟨?_, ?_⟩, rfl⟩
       · simp [upd]
       · simpa [upd] using v70
     · simp only [List.getElem?_toArray, List.getElem?_cons_zero, List.getElem?_cons_succ, Option.some.injEq] at ho; subst ho
       obtain ⟨v8, g8⟩ := hdep 8 (by kernel_rfl)
       replace g8 := g8 37 rfl
       obtain ⟨v8, p, k, v7⟩ := v8
       have v8 : val 8 = _ := v8
       rw [v8, v7] at g8
       simp only [push_cast, seval, reduceCtorEq, List.flatMap_nil, List.flatMap_cons, List.append_nil, List.nil_append, g8]
       refine ⟨[], rfl, trivial, rfl, ⟨p, k, ?_, ?_⟩, rfl⟩
       · simp [upd]
       · simp [upd, v8, v7]
     · simp only [List.getElem?_toArray, List.getElem?_cons_zero, List.getElem?_cons_succ, Option.some.injEq] at ho; subst ho
       obtain ⟨v8, g8⟩ := hdep 8 (by kernel_rfl)
       replace g8 := g8 37 rfl
       obtain ⟨v8, p, k, v7⟩ := v8
       have v8 : val 8 = _ := v8
       rw [v8, v7] at g8
       simp only [push_cast, seval, reduceCtorEq, List.flatMap_nil, List.flatMap_cons, List.append_nil, List.nil_append, g8]
       exact ⟨[], rfl, trivial, rfl, upd_self _ _ _, rfl⟩
     · simp only [List.getElem?_toArray, List.getElem?_cons_zero, List.getElem?_cons_succ, Option.some.injEq] at ho; subst ho
       obtain ⟨v8, g8⟩ := hdep 8 (by kernel_rfl)
       replace g8 := g8 37 rfl
       obtain ⟨v8, p, k, v7⟩ := v8
       have v8 : val 8 = _ := v8
       rw [v8, v7] at g8
       simp only [push_cast, seval, reduceCtorEq, List.flatMap_nil, List.flatMap_cons, List.append_nil, List.nil_append, g8]
       exact ⟨[], rfl, trivial, rfl, upd_self _ _ _, rfl⟩
     · simp only [List.getElem?_toArray, List.getElem?_cons_zero, List.getElem?_cons_succ, Option.some.injEq] at ho; subst ho
       simp only [push_cast, seval, reduceCtorEq, List.flatMap_nil, List.flatMap_cons, List.append_nil, List.nil_append]
       intro b hf
       exact ⟨[_], rfl, ⟨trivial, trivial⟩, rfl, ⟨b, upd_self _ _ _⟩, b, upd_self _ _ _, rfl⟩
     · simp only [List.getElem?_toArray, List.getElem?_cons_zero, List.getElem?_cons_succ, Option.some.injEq] at ho; subst ho
       obtain ⟨v9, g9⟩ := hdep 9 (by kernel_rfl)
       replace g9 := g9 46 rfl
       obtain ⟨p, k, v9, -⟩ := v9
       have v9 : val 9 = _ := v9
       rw [v9] at g9
       simp only [push_cast, seval, reduceCtorEq, List.flatMap_nil, List.flatMap_cons, List.append_nil, List.nil_append, g9]
       refine ⟨[], rfl, trivial, rfl, ⟨p, k, ?_, ?_⟩, rfl⟩
       · simp [upd]
       · simp [upd, v9]
     · simp only [List.getElem?_toArray, List.getElem?_cons_zero, List.getElem?_cons_succ, Option.some.injEq] at ho; subst ho
       obtain ⟨v10, g10⟩ := hdep 10 (by kernel_rfl)
       replace g10 := g10 47 rfl
       rw [show val 10 = _ from v10] at g10
       obtain ⟨v12, g12⟩ := hdep 12 (by kernel_rfl)
       replace g12 := g12 10 rfl
       obtain ⟨b7, v12, hN⟩ := hus 12 (List.mem_singleton.2 rfl)
       have v12 : val 12 = _ := v12
       rw [v12] at g12
       simp only [push_cast, seval, reduceCtorEq, List.flatMap_nil, List.flatMap_cons, List.append_nil, List.nil_append, g10, g12, hN, List.cons_append, Ch.zero.len, (uE2).len, (show (uE2).cells.all oneC = true from rfl)]
       refine ⟨[_], rfl, ⟨trivial, trivial⟩, rfl, b7, ?_, rfl⟩
       · simp [upd, v12]
     · simp only [List.getElem?_toArray, List.getElem?_cons_zero, List.getElem?_cons_succ, Option.some.injEq] at ho; subst ho
       obtain ⟨v11, g11⟩ := hdep 11 (by kernel_rfl)
       replace g11 := g11 48 rfl
       rw [show val 11 = _ from v11] at g11
       simp only [push_cast, seval, reduceCtorEq, List.flatMap_nil, List.flatMap_cons, List.append_nil, List.nil_append, g11]
       exact ⟨[], rfl, trivial, rfl, upd_self _ _ _, rfl⟩
   · intro val mem hV hQ hap hwr
     obtain ⟨w7, m7, u7, hu7, hq7⟩ := hQ 7 (by decide)
     obtain ⟨b10, v12, hN14⟩ := hQ 14 (by decide)
     obtain ⟨p2, k2, v13, h913⟩ := hV 13 (by decide)
     obtain ⟨h8, -⟩ := hV 8 (by decide)
     obtain ⟨-, -, -, h98⟩ := hV 9 (by decide)
     have v15 : val 15 = .int .i64 0 := hV 15 (by decide)
     have v12 : val 12 = _ := v12
     have v13 : val 13 = _ := v13
     have h913 : val 9 = val 13 := h913
     have hu7 : val 7 = _ := hu7
     have h8 : val 8 = val 7 := h8
     have h98 : val 8 = .tuple #[val 9, uE2.v, .int .i64 0] := h98
     rw [h8, hu7, h913, v13] at h98
     have hs7 : u7 = .slice p2 1 k2 := by injection h98 with h; have h1 := congrArg Array.toList h; simp only [List.cons.injEq] at h1; exact h1.1
     subst hs7
     have hMM : List.flatMap mem [7, 14] ++ (⟨b7, 0, .cel 33, wU.cells⟩ :: ⟨b4, 0, .cel 33, uE5.cells⟩ :: ⟨b2, 0, .cel 25, adE.cells⟩ :: M2) = mem 7 ++ (⟨b10, 0, .cel 33, uE2.cells⟩ :: ⟨b7, 0, .cel 33, wU.cells⟩ :: ⟨b4, 0, .cel 33, uE5.cells⟩ :: ⟨b2, 0, .cel 25, adE.cells⟩ :: M2) := by
      simp only [List.flatMap_cons, List.flatMap_nil, List.append_nil, hN14, List.append_assoc, List.cons_append, List.nil_append]
     rw [hMM] at hap ⊢
     have a5 := freshN_apart hap w7
     have hap' := (List.pairwise_append.1 hap).2.1
     have a7 := freshN_apart (A := [⟨b10, 0, .cel 33, uE2.cells⟩]) hap' ⟨trivial, trivial⟩
     have q57 := freshN_sym a5
     have hb10 := a7.1
     simp only [push_cast, seval, reduceCtorEq] at hb10
     have f10 : fresh b10 (M2 ++ mem 7) := fresh_app_iff.2 ⟨hb10.2.2.2.2.2.2, q57.1⟩
     have f7 : fresh b7 (M2 ++ mem 7) := fresh_app_iff.2 ⟨f7, q57.2.1⟩
     have f4 : fresh b4 (M2 ++ mem 7) := fresh_app_iff.2 ⟨f4, q57.2.2.1⟩
     have f2 : fresh b2 (M2 ++ mem 7) := fresh_app_iff.2 ⟨f2, q57.2.2.2.1⟩
     have hg3 : Gr M2 (M2 ++ mem 7) := ⟨hm2, mem 7, rfl, w7, m7⟩
     have hs2 : StR [xE2] (.slice p2 1 k2) (M2 ++ mem 7) := StR.rd _ _ _ _ (cellsAt_swap (freshN_cons (freshN_cons (freshN_cons (freshN_cons a5))))) hq7
     have hs1 := hs1.ext hg3.ext
     have ht := ht.ext hg3.ext
     simp only [push_cast, seval, reduceCtorEq, v12, v13, v15]
     refine WpV.perm (H' := ⟨b10, 0, .cel 33, uE2.cells⟩ :: ⟨b7, 0, .cel 33, wU.cells⟩ :: ⟨b4, 0, .cel 33, uE5.cells⟩ :: ⟨b2, 0, .cel 25, adE.cells⟩ :: (M2 ++ mem 7)) ?_ ?_ ?_
     · exact List.perm_append_comm
     · simp [marks_append, marksOf, m7, hm2]
     refine WpV.slots [(1, .func (.func 29) #[] #[]), (2, .pointer (some ⟨b2, 0, none⟩)), (3, .slice p1 1 k1), (4, .pointer (some ⟨b4, 0, none⟩)), (5, .int .i64 0), (6, .slice pt 0 kt), (8, .int .i64 0), (9, .slice p2 1 k2), (10, .pointer (some ⟨b10, 0, none⟩)), (11, .int .i64 0)] (by simp only [push_cast, seval, reduceCtorEq]) ?_
     clear hq7
     generalize M2 ++ mem 7 = M3 at hg3 hs1 hs2 ht f10 f7 f4 f2 ⊢
     refine regO gV2_ok ?_
     simp only [push_cast, seval, reduceCtorEq, hb10, hb7, hb4]
     refine useL [_, _, _, _] (by have := sdo_R (c := cEo) hs1 (by decide) (fun y hy => by rw [List.mem_singleton.1 hy]; decide); rw [doEo] at this; exact this) (DoR.rd _) hg3.marks ⟨f10, f7, f4, f2, trivial⟩ fun w M4 hg4 hL4 hq => ?_
     obtain ⟨u, rfl, hx⟩ := hq
     have hx : StR [xE5] u M4 := hx
     obtain ⟨px, kx, rfl⟩ := hx.slice
     have hs1 := hs1.ext hg4.ext
     have hs2 := hs2.ext hg4.ext
     simp only [push_cast, seval, reduceCtorEq, hb10, hb7, hb4]
     intro b13 hb13
     obtain ⟨f10, f7, f4, f2, -⟩ := id hL4
     have f13 : fresh b13 M4 := hb13.2.2.2.2.2.2.2.2
     have hk4 : KonR M4 := (hg1.trans (hg2.trans (hg3.trans hg4))).ext.keep _ _ _ _ hk
     refine useP [_, _, _, _, _] (v := .tuple #[.string ⟨(keccK [192]).toArray⟩, .int .i64 0]) (fun M0 hr he => digest0_ok (hk4.congr he.symm) hr.marks) ⟨f13, f10, f7, f4, f2, trivial⟩ ?_
     simp only [push_cast, seval, reduceCtorEq, hb13, hb10, hb7, hb4]
     refine useL [_, _, _, _, _] (sfind_ok (a := adE) hs2 (by decide) (fun y hy => by rw [List.mem_singleton.1 hy]; decide)) (AcR.rd _) hg4.marks ⟨f13, f10, f7, f4, f2, trivial⟩ fun w M5 hg5 hL5 hq => ?_
     rw [findE2] at hq
     obtain ⟨sv, rfl, hsv⟩ := hq
     have hs1 := hs1.ext hg5.ext
     have hs2 := hs2.ext hg5.ext
     have ho := xE2.all1 sv hsv.one
     simp only [push_cast, seval, reduceCtorEq, hb13, hb10, hb7, hb4]
     intro b17 hb17
     simp only [push_cast, seval, reduceCtorEq, ho, hb17, hb13, hb10, hb7, hb4]
     intro b65 hb65
     simp only [push_cast, seval, reduceCtorEq, ho, hb65, hb17, hb13, hb10, hb7, hb4]
     obtain ⟨f13, f10, f7, f4, f2, -⟩ := id hL5
     have f17 : fresh b17 M5 := hb17.2.2.2.2.2.2.2.2.2.2
     have f65 : fresh b65 M5 := hb65.2.2.2.2.2.2.2.2.2.2.2.2
     have hX : Ext M5 (⟨b65, 0, .vec 31 27 1, (emptyAt Ad.zero).cells (.slice none 0 0)⟩ :: M5) := Ext.cons hg5.marks rfl f65
     have hz : StR [emptyAt Ad.zero] (.slice (some ⟨b65, 0, none⟩) 1 1) (⟨b65, 0, .vec 31 27 1, (emptyAt Ad.zero).cells (.slice none 0 0)⟩ :: M5) :=
      ⟨[(emptyAt Ad.zero, .slice none 0 0)], rfl, ⟨_, _, rfl, .inr ⟨b65, 0, rfl, by unfold cellsAt; simp only [findE, if_pos]; rfl⟩⟩, fun x hx => by rw [List.mem_singleton.1 hx]; exact ⟨none, 0, rfl, .inl rfl⟩⟩
     refine CallsV.pin (H' := [⟨b17, 0, .cel 31, xE2.cells sv⟩, ⟨b13, 0, .cel 33, Ch.zero.cells⟩, ⟨b10, 0, .cel 33, uE2.cells⟩, ⟨b7, 0, .cel 33, wU.cells⟩, ⟨b4, 0, .cel 33, uE5.cells⟩, ⟨b2, 0, .cel 25, adE.cells⟩] ++ (⟨b65, 0, .vec 31 27 1, (emptyAt Ad.zero).cells (.slice none 0 0)⟩ :: M5)) (List.perm_middle (l₁ := [⟨b17, 0, .cel 31, xE2.cells sv⟩, ⟨b13, 0, .cel 33, Ch.zero.cells⟩, ⟨b10, 0, .cel 33, uE2.cells⟩, ⟨b7, 0, .cel 33, wU.cells⟩, ⟨b4, 0, .cel 33, uE5.cells⟩, ⟨b2, 0, .cel 25, adE.cells⟩]) (a := ⟨b65, 0, .vec 31 27 1, (emptyAt Ad.zero).cells (.slice none 0 0)⟩) (l₂ := M5)).symm (by simp [marksOf, hg5.marks]) ?_
     refine useL [⟨b17, 0, .cel 31, xE2.cells sv⟩, ⟨b13, 0, .cel 33, Ch.zero.cells⟩, ⟨b10, 0, .cel 33, uE2.cells⟩, ⟨b7, 0, .cel 33, wU.cells⟩, ⟨b4, 0, .cel 33, uE5.cells⟩, ⟨b2, 0, .cel 25, adE.cells⟩] (M := ⟨b65, 0, .vec 31 27 1, (emptyAt Ad.zero).cells (.slice none 0 0)⟩ :: M5) (sset_R (x := xE2) hz (hsv.ext hX) (by decide)) (SetR.rd _) hX.marks (by refine ⟨?_, ?_, ?_, ?_, ?_, ?_, trivial⟩ <;> (simp only [push_cast, seval, reduceCtorEq, hb65]; assumption)) fun w M6 hg6 hL6 hq => ?_
     rw [setE0] at hq
     obtain ⟨u, rfl, hq⟩ := hq
     have hs1 := (hs1.ext hX).ext hg6.ext
     have hs2 := (hs2.ext hX).ext hg6.ext
     have hsv := (hsv.ext hX).ext hg6.ext
     simp only [push_cast, seval, reduceCtorEq, hb17, hb13, hb10, hb7, hb4]
     obtain ⟨ps, ks, rfl⟩ := hsv.slice
     have hsl : xE2.slots.length = 1 := rfl
     have hkl : (keccK [192]).length = 32 := keccK_len _
     have hks : (⟨(keccK [192]).toArray⟩ : ByteArray).size = 32 := hkl
     generalize hdg : (⟨(keccK [192]).toArray⟩ : ByteArray) = dg at hks ⊢
     refine WpV.slots [(1, .func (.func 29) #[] #[]), (2, .pointer (some ⟨b2, 0, none⟩)), (3, .slice p1 1 k1), (4, .pointer (some ⟨b4, 0, none⟩)), (5, .int .i64 0), (6, .slice pt 0 kt), (8, .int .i64 0), (9, .slice p2 1 k2), (11, .int .i64 0), (14, .int .i64 1), (15, .string dg), (16, .int .i64 0), (17, .pointer (some ⟨b17, 0, none⟩)), (19, .int .i64 1)] (by simp only [push_cast, seval, reduceCtorEq]) ?_
     refine regO gV2_ok ?_
     simp only [push_cast, seval, reduceCtorEq, hsl, hks, hb17, hb13, hb10, hb7, hb4]
     refine drawO gV2_ok Tryz.mix (Tryz.pl9 12) (by kernel_rfl) ?_
     have ce : (⟨1, adE, W.zero, W.zero, 0, .empty⟩ : Ch) = uE5 := rfl
     obtain ⟨g1, g2, -, -, g5, g6⟩ := Ac.get xE2 (.slice ps 1 ks)
     have gb : xE2.bal.cells = e5w.cells := rfl
     have va : ∀ w : W, Value.agg w.cells.toArray = w.v := fun _ => rfl
     have hdx : dg.extract 0 2 = ⟨#[29, 204]⟩ := by
      rw [← hdg]
      have h1 : ((⟨(keccK [192]).toArray⟩ : ByteArray).extract 0 2).data = (⟨#[29, 204]⟩ : ByteArray).data := by
       rw [ByteArray.data_extract]
       have h2 : List.extract (keccK [192]) 0 2 = [29, 204] := by
        rw [List.extract_eq_take_drop, List.drop_zero]; exact kecc_c0
       rw [List.extract_toArray, h2]
      exact congrArg ByteArray.mk h1
     obtain ⟨pz, kz, hpe, hsa⟩ := LiR.openC Sl.len (by decide) hsv
     rcases hsa with hsa | ⟨bs, fs, ds, kd, cs, rfl, hfs, hats⟩
     · cases hsa
     obtain ⟨hps1, hps2⟩ : ps = some ⟨bs, fs + ds, none⟩ ∧ ks = kz := by injection hpe with h1 h2 h3; exact ⟨h1, h3⟩
     subst hps1
     obtain ⟨q1, q2⟩ := hats 0 ⟨e1w, e2w⟩ rfl
     rw [Nat.zero_mul, Nat.add_zero] at q1 q2
     have q3 : List.take 4 (List.drop (ds + 4) cs) = e2w.cells := by
      have := congrArg (fun z => List.take 4 (List.drop 4 z)) q2
      rw [List.drop_take, List.take_take, List.drop_drop] at this
      exact this
     have q4 : ds + 4 + 4 ≤ cs.length := by omega
     obtain ⟨n17, n13, n10, n7, n4, n2, -⟩ := id hL6
     have m17 := (fresh_findS n17 hfs).2
     have m13 := (fresh_findS n13 hfs).2
     have m10 := (fresh_findS n10 hfs).2
     have m7 := (fresh_findS n7 hfs).2
     have m4 := (fresh_findS n4 hfs).2
     have m2 := (fresh_findS n2 hfs).2
     have o1 : fs ≤ fs + ds + 4 := by omega
     have o2 : fs + ds + 4 - fs = ds + 4 := by omega
     have o3 : fs + ds + 4 = fs + (ds + 4) := by omega
     simp only [List.append_eq, List.cons_append, List.nil_append]
     simp only [push_cast, seval, reduceCtorEq, hb17, hb13, hb10, hb7, hb4, ce, g1, g2, g5, g6, gb, va, k5, e5, kk2, ee2, hdx, hfs, m17, m13, m10, m7, m4, m2, o1, o2, q3, q4, hks]
     refine takeP8 [_, _, _, _, _, _] (v := .bool true) (fun MB hr he => empty_ok (x := emptyAt adE) (sv := .slice none 0 0) (M := MB) (LiR.nil MB 0) hr.marks) hL6 ?_
     simp only [push_cast, seval, reduceCtorEq, hb17, hb13, hb10, hb7, hb4, ce, g1, g2, g5, g6, gb, va, k5, e5, kk2, ee2, hdx, hfs, m17, m13, m10, m7, m4, m2, o1, o2, q3, q4, hks]
     refine takeP8 [_, _, _, _, _, _] (v := .bool true) (fun MB hr he => by have := sright_ok (StR.rd _ _ _ _ he.symm hs2) hr.marks (by decide); rw [rightS_iff.2 riE2] at this; exact this) hL6 ?_
     simp only [push_cast, seval, reduceCtorEq, hb17, hb13, hb10, hb7, hb4, ce, g1, g2, g5, g6, gb, va, k5, e5, kk2, ee2, hdx, hfs, m17, m13, m10, m7, m4, m2, o1, o2, q3, q4, hks]
     refine takeP8 [_, _, _, _, _, _] (v := .bool true) (fun MB hr he => by have := ssame_R hs2 hs2 (by decide) (by decide) (fun y hy => by rw [List.mem_singleton.1 hy]; decide) MB hr he; rw [decide_eq_true (show [xE2] = [xE2] from rfl)] at this; exact this) hL6 ?_
     simp only [push_cast, seval, reduceCtorEq, hb17, hb13, hb10, hb7, hb4, ce, g1, g2, g5, g6, gb, va, k5, e5, kk2, ee2, hdx, hfs, m17, m13, m10, m7, m4, m2, o1, o2, q3, q4, hks]
     refine takeP8 [_, _, _, _, _, _] (v := .bool false) (fun MB hr he => by have := ssame_R hs1 hs2 (by decide) (by decide) (fun y hy => by rw [List.mem_singleton.1 hy]; decide) MB hr he; rw [decide_eq_false (show ¬ [xE5] = [xE2] by decide)] at this; exact this) hL6 ?_
     simp only [push_cast, seval, reduceCtorEq, hb17, hb13, hb10, hb7, hb4, ce, g1, g2, g5, g6, gb, va, k5, e5, kk2, ee2, hdx, hfs, m17, m13, m10, m7, m4, m2, o1, o2, q3, q4, hks]
end Go.Proofs.YtpcjmmdgopihcaaGreatDoor
namespace Go.Ev
theorem RiS.slN {s : List Ac} (h : RiS s) : ∀ y ∈ s, y.slots.length ≤ 2199023255551 := fun y hy => by have := (mayA_slots (h.may y hy)).len; omega
end Go.Ev
namespace Go.Proofs.YtpcjmmdgopihcaaGreatDoor
open Go Go.Ev Go.Proofs
theorem awk08_P {A : Hp} (hk : KonR A) : ∀ M0, roM M0 → cellsAt M0 = cellsAt A → CallsV Tryz.prog 9 [] M0 (Ret0 (.bool true)) := fun M0 hr he => awk08_ok (hk.congr he.symm) hr.marks
end Go.Proofs.YtpcjmmdgopihcaaGreatDoor
namespace Go.Ev
theorem YieldV.preN {P : Program} {l : Nat} {args : List Value} {H H' : Hp} {K : Value → Hp → Prop} (hp : H.Perm H') (hm : marksOf H' = marksOf H) (h : YieldV P l args H' K) : YieldV P l args H K :=
 fun w0 mu w hs => by have := h w0 mu w (hs.perm hp); rwa [hm] at this
def VI (ts : List It) (k : Nat) (args : List Value) (N : Hp) : Prop := ∃ t, ts[k]? = some t ∧ ∃ x : Iv, args = [x.v] ∧ x.it = t ∧ IvOk N x
end Go.Ev
namespace Go.Proofs.YtpcjmmdgopihcaaGreatDoor
open Go Go.Ev Go.Proofs
def plIt2 : Plans := fun i => if i = 3 then [] else Tryz.pl76 i
attribute [push_cast] plIt2
theorem items2_ok {Hc : Hp} {s : List Ac} {v : Value} {b c : Nat} {kb kc : Kind} (hv : StR s v Hc) (hn : s.length ≤ 1099511627776) (hsl : ∀ y ∈ s, y.slots.length ≤ 1099511627776) (hnc : ∀ y ∈ s, -9223372036854775808 ≤ y.nonce ∧ y.nonce ≤ 9223372036854775807) (hmc : marksOf Hc = []) (hb : findE Hc b = some ⟨b, 0, kb, [v]⟩) (hc : findE Hc c = some ⟨c, 0, kc, [.func (.func 74) #[] #[]]⟩) :
  IterN Tryz.prog 76 [.pointer (some ⟨b, 0, none⟩), .pointer (some ⟨c, 0, none⟩)] Hc s.length (VI (s.map itA)) := by
 refine ⟨enterO Tryz.func76 rfl rfl, fun X Ho I St l x0 hro hmk h0 hy => ?_⟩
 have hmarks : ∀ x, marksOf (Hc ++ Ho x) = [] := fun x => by rw [marks_append, hmc, hmk]; rfl
 have hm0 := hmarks x0
 have hb' := fun z => findE_appT (B := Ho z) hb
 have hc' := fun z => findE_appT (B := Ho z) hc
 obtain ⟨L, rfl, hL, hLs⟩ := hv
 have hlen : (L.map (·.1)).length = L.length := List.length_map _
 rw [hlen] at hn
 obtain ⟨p, k, rfl, hla⟩ := hL.openA
 have yf : ∀ (x' : X), (I (L.map (·.1)).length x' ∨ St x') → ∃ H'_1, List.Sublist H'_1 (dropM (Hc ++ Ho x')) ∧ ∃ x, (I (L.map (·.1)).length x ∨ St x) ∧ H'_1 = Ho x := fun x' hst => by
  refine ⟨Ho x', ?_, x', hst, rfl⟩
  rw [dropM_eq (hmarks x')]
  exact List.sublist_append_right _ _
 refine callsO gN4_ok Tryz.mix plIt2 Tryz.func76 rfl Tryz.ntmps76 Tryz.results76 rfl (by first | rfl | assumption) (Nat.le_of_ble_eq_true rfl) (by kernel_rfl) ?_
 simp only [push_cast, seval, reduceCtorEq, hb', hlen]
 refine loopO gN4_ok (pl := plIt2) Tryz.mix (X := Nat × X)
  (fun s => ([(0, .func (.yield l) #[] #[]), (1, .pointer (some ⟨b, 0, none⟩)), (2, .pointer (some ⟨c, 0, none⟩)), (6, .slice p L.length k), (7, .int .i64 L.length), (8, .int .i64 s.1)], Hc ++ Ho s.2))
  (fun s => s.1 ≤ L.length ∧ I s.1 s.2) (fun s => L.length - s.1) (0, x0) ⟨Nat.zero_le _, h0⟩ ?_ (by kernel_rfl) ?_
 · simp only [push_cast, seval, reduceCtorEq, hm0, subH_self]
 · rintro ⟨i, z⟩ ⟨hi, hI⟩
   dsimp only at hi hI ⊢
   have hGb := hb' z
   have hGc := hc' z
   rcases Nat.lt_or_ge i L.length with hlt | hge
   · obtain ⟨⟨a, sv⟩, hx⟩ : ∃ x, L[i]? = some x := ⟨L[i], List.getElem?_eq_getElem hlt⟩
     rcases hla with rfl | ⟨bb, f, d, kd, cs, rfl, he, hat⟩
     · simp at hx
     obtain ⟨-, a1, a2⟩ := hat i _ hx
     have hxs := hLs _ (List.mem_of_getElem? hx)
     have ham : a ∈ L.map (·.1) := List.mem_map_of_mem (f := (·.1)) (List.mem_of_getElem? hx)
     have a0 : (a.cells sv).all oneC = true := Ac.all1 a sv hxs.one
     have hee := findE_appT (B := Ho z) he
     have i1 : (i : Int) < (L.length : Int) := by omega
     have c27 : acC (a, sv) = a.cells sv := rfl
     obtain ⟨g1, g2, g3, g4, g5, g6⟩ := Ac.get a sv
     have l27 : List.take 27 (a.cells sv) = a.cells sv := List.take_of_length_le (Nat.le_of_eq g6)
     simp only [push_cast, seval, reduceCtorEq, i1, hlt, hee, a1, a2, c27, a0, g6, l27]
     intro b5 hb5
     have hY : ∀ q e, findE Hc q = some e → findE (⟨b5, 0, .cel 31, a.cells sv⟩ :: (Hc ++ Ho z)) q = some e := fun q e h => by
      have h1 := findE_appT (B := Ho z) h
      rw [findE, if_neg (show ¬ q = b5 from (fresh_findS hb5 h1).2)]
      exact h1
     refine drawO gN4_ok Tryz.mix [(0, 0), (1, 0), (2, 0), (5, 0), (6, 0), (9, 0), (10, 0), (12, 0), (13, 0), (15, 0), (16, 0), (17, 0), (3, 2), (4, 2), (7, 0), (8, 2), (11, 2), (14, 2), (18, 2), (19, 2), (20, 2), (21, 2), (22, 1), (23, 0)] (by decide +kernel) ?_
     have hbt : bytesOf a.at_.cells = some a.at_.l := bytesOf_byteV _
     obtain ⟨n1, n2⟩ := hnc a ham
     have va : ∀ w : W, Value.agg w.cells.toArray = w.v := fun _ => rfl
     have d2 := (fresh_findS hb5 hGc).2
     simp only [push_cast, seval, reduceCtorEq, hb5, g1, g2, g3, g4, g5, g6, hbt, n1, n2, va, d2, hGc]
     refine callO (M := Hc) (mappedS_ok hxs (hsl a ham)) hY fun v N hN1 hN2 hfN hq => ?_
     obtain ⟨ks, hks, hkl, hkok⟩ := hq
     obtain ⟨pk, kk, rfl, -⟩ := id hkl
     have hkn : ks.length ≤ 1099511627776 := by
      have h1 := congrArg List.length hks
      rw [List.length_map, List.length_map] at h1
      have h2 := hsl a ham
      dsimp only at h1
      omega
     simp only [push_cast, seval, reduceCtorEq]
     refine ⟨subH_new (⟨b5, 0, .cel 31, a.cells sv⟩ :: (Hc ++ Ho z)) N (fun e he x hx => freshN_iff.1 hfN e he x hx), fun b32 hb32 => ⟨subH_cons hb32, ?_⟩⟩
     have hcode : bs a.code.data.toList = a.code := by obtain ⟨m, hm⟩ := bs_of a.code; rw [hm, bs_data]
     obtain ⟨KS, hKS⟩ : ∃ KS : List Iv, KS = [ivTx a.at_.l, ivTx (numL (W.ofInt a.nonce)), ivTx (numL a.bal), ivTx a.code.data.toList, ivLs (.slice pk ks.length kk) ks] := ⟨_, rfl⟩
     have hcl : [.bool false, .string { data := a.at_.l.toArray }, .slice none 0 0, .bool false, .string (bs (numL (W.ofInt a.nonce))), .slice none 0 0, .bool false, .string (bs (numL a.bal)), .slice none 0 0, .bool false, .string a.code, .slice none 0 0, .bool true, .string (bs []), .slice pk ks.length kk] = KS.flatMap Iv.cells := by
      rw [hKS]
      conv => lhs; rw [← hcode]
      rfl
     have hKl : KS.length = 5 := by rw [hKS]; rfl
     obtain ⟨E32, hE32⟩ : ∃ E : Ent, E = ⟨b32, 0, .vec 90 3 5, KS.flatMap Iv.cells⟩ := ⟨_, rfl⟩
     obtain ⟨E5, hE5⟩ : ∃ E : Ent, E = ⟨b5, 0, .cel 31, a.cells sv⟩ := ⟨_, rfl⟩
     rw [hcl, ← hE32, ← hE5]
     rw [← hE5] at hfN hb32
     have m32 : ∀ X : Hp, marksOf (E32 :: X) = marksOf X := fun X => by rw [hE32]; rfl
     have m5 : ∀ X : Hp, marksOf (E5 :: X) = marksOf X := fun X => by rw [hE5]; rfl
     have mN0 : marksOf ([] : Hp) = [] := rfl
     have f32 : fresh b32 N := (fresh_app_iff.1 hb32).1
     have hext : Ext N (E32 :: N) := Ext.cons hN2 (m32 []) (by rw [hE32]; exact f32)
     have hok : IvOk (E32 :: N) (ivLs (.slice (some ⟨b32, 0, none⟩) 5 5) KS) := by
      refine ivLs_ok (by rw [hE32]; exact LiR.vecI hKl.symm) (by rw [hKl]; decide) fun y hy => ?_
      rw [hKS] at hy
      simp only [List.mem_cons, List.not_mem_nil, or_false] at hy
      rcases hy with rfl | rfl | rfl | rfl | rfl
      · exact ivTx_ok _ _
      · exact ivTx_ok _ _
      · exact ivTx_ok _ _
      · exact ivTx_ok _ _
      · exact ivLs_ok (hkl.ext hext) hkn fun y hy => (hkok y hy).ext hext
     have hit : (ivLs (.slice (some ⟨b32, 0, none⟩) 5 5) KS).it = itA a := by
      rw [ivLs_it, hKS]
      simp only [List.map_cons, List.map_nil, ivTx_it, ivLs_it, hks]
      rfl
     refine YieldV.preN (H' := E5 :: (Hc ++ ((E32 :: N) ++ Ho z))) ?_ ?_ ?_
     · classical
       refine List.perm_iff_count.2 fun a => ?_
       simp only [List.count_append, List.count_cons, List.count_nil]
       omega
     · simp [marks_append, m32, m5, hmc, hmk, hN2]
     refine (hy i z [(ivLs (.slice (some ⟨b32, 0, none⟩) 5 5) KS).v] (E32 :: N) (by rw [hlen]; exact hlt) ⟨itA a, by rw [List.getElem?_map, List.getElem?_map, hx]; rfl, _, rfl, hit, hok⟩ ⟨by rw [hE32]; trivial, hN1⟩ (by rw [m32]; exact hN2) hI).frame2 ?_ (m5 []) ?_
     · rintro v H' (⟨rfl, x', _, rfl⟩ | ⟨rfl, x', _, rfl⟩) <;> exact fun e he => (hro z x' e he).imp id (List.mem_append_right _)
     · rintro v H' (⟨rfl, x', h, rfl⟩ | ⟨rfl, x', h, rfl⟩)
       · simp only [push_cast, seval, reduceCtorEq, wrap_i64' (show -9223372036854775808 ≤ (i : Int) + 1 ∧ (i : Int) + 1 ≤ 9223372036854775807 by omega)]
         refine ⟨(i + 1, x'), ⟨hlt, h⟩, by dsimp only; omega, ⟨rfl, ?_, ?_⟩⟩
         · rw [← List.append_assoc]; exact subH_frontN _ _
         · rw [← List.append_assoc, marks_append (Hc ++ Ho x'), m5, mN0, List.append_nil]
       · simp only [push_cast, seval, reduceCtorEq]
         refine ⟨Ho x', ?_, x', .inr h, rfl⟩
         rw [← List.append_assoc, dropM_eq (by rw [marks_append, hmarks, m5]; rfl)]
         exact (List.sublist_append_right _ _).trans (List.sublist_append_left _ _)
   · obtain rfl : i = L.length := by omega
     simp only [push_cast, seval, reduceCtorEq, Int.lt_irrefl]
     rw [hlen] at yf
     exact yf z (.inl hI)
end Go.Proofs.YtpcjmmdgopihcaaGreatDoor
namespace Go.Proofs.YtpcjmmdgopihcaaGreatDoor
open Go Go.Ev Go.Proofs Go.RowKit Go.Extern.Stop Go.Stop Go.Extern
end Go.Proofs.YtpcjmmdgopihcaaGreatDoor
namespace Go.Ev
end Go.Ev
namespace Go.Proofs.YtpcjmmdgopihcaaGreatDoor
open Go Go.Ev Go.Proofs
end Go.Proofs.YtpcjmmdgopihcaaGreatDoor
namespace Go.Ev
noncomputable def plusW : W → W → W := hid fun x y => W.of (x.num + y.num)
noncomputable def plusG : List Value → Option Value
 | [x, y] => (wOf x).bind fun a => (wOf y).bind fun b => some (plusW a b).v
 | _ => none
noncomputable def intW : W → Int × Bool := hid fun w => if w.num ≤ 4611686018427387903 then ((w.num : Int), true) else (0, false)
noncomputable def intG : List Value → Option Value
 | [x] => (wOf x).bind fun a => some (.tuple #[.int .i64 (intW a).1, .bool (intW a).2])
 | _ => none
attribute [push_cast] plusG intG
theorem wun_some {args : List Value} {v : Value} {g : W → Value} {f : List Value → Option Value} (hf : f = fun l => match l with | [x] => (wOf x).bind fun a => some (g a) | _ => none) (h : f args = some v) : ∃ x : W, args = [x.v] ∧ v = g x := by
 rw [hf] at h
 dsimp only at h
 split at h
 · rename_i x
   cases hx : wOf x with
   | none => simp [hx] at h
   | some a =>
     simp only [hx, Option.bind_some, Option.some.injEq] at h
     rw [wOf_some hx]
     exact ⟨a, rfl, h.symm⟩
 · cases h
theorem or_zero {x y : Nat} (h : x ||| y = 0) : x = 0 ∧ y = 0 := by
 have h1 := Nat.left_le_or (n := x) (m := y)
 have h2 := Nat.right_le_or (n := x) (m := y)
 omega
end Go.Ev
namespace Go.Proofs.YtpcjmmdgopihcaaGreatDoor
open Go Go.Ev Go.Proofs
end Go.Proofs.YtpcjmmdgopihcaaGreatDoor
