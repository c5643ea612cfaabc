/- Texts of this claim, merged by program: Ap Aq Ar EvW. -/
import Derived.Test.YtpcjmmdgopihcaaGreatDoorZgAk
import Derived.Test.YtpcjmmdgopihcaaGreatDoorZgAj
set_option linter.unusedSimpArgs false
set_option linter.unusedVariables false
set_option maxRecDepth 100000
set_option maxHeartbeats 4000000
namespace Go.Ev
theorem subH_bring {e : Ent} {N A M : Hp} (h1 : ∀ x ∈ N, ¬ e.blk = x.blk) (h2 : ∀ x ∈ A, ¬ e.blk = x.blk) (hA : freshN A M) : subH (N ++ (A ++ e :: M)) (e :: (N ++ M)) := by
 have f1 : findE (N ++ (A ++ e :: M)) e.blk = some e := by rw [findE_A h1, findE_A h2]; simp [findE]
 have f2 : remE (N ++ (A ++ e :: M)) e.blk = N ++ (A ++ M) := by rw [remE_A h1, remE_A h2]; simp [remE]
 refine ⟨f1, ?_⟩
 rw [f2]
 exact subH_ins hA N
theorem freshN_cons2 {N M : Hp} {e : Ent} (h : freshN N (e :: M)) : freshN N [e] := freshN_iff.2 fun x hx y hy => by rw [List.mem_singleton.1 hy]; exact freshN_iff.1 h x hx e (List.mem_cons_self ..)
theorem fresh_blk {N M : Hp} {e : Ent} (h : freshN N (e :: M)) : ∀ x ∈ N, ¬ e.blk = x.blk := fun x hx => freshN_iff.1 h x hx e (List.mem_cons_self ..)
noncomputable def putI (x : Ac) (l : List Ac) : List Ac := l.filter (fun y => decide (y.at_.num < x.at_.num)) ++ ((if emptyA x || (l.filter fun y => decide (x.at_.num < y.at_.num)).isEmpty then [] else [x]) ++ l.filter (fun y => decide (x.at_.num < y.at_.num)))
noncomputable def putD (x : Ac) (l : List Ac) : Bool := emptyA x || !(l.filter fun y => decide (x.at_.num < y.at_.num)).isEmpty
theorem putI_same {x y : Ac} {l : List Ac} (h : y.at_ = x.at_) : putI x (l ++ [y]) = putI x l ∧ putD x (l ++ [y]) = putD x l := by
 have e1 : [y].filter (fun y => decide (y.at_.num < x.at_.num)) = [] := by rw [List.filter_cons_of_neg (by simp [h]), List.filter_nil]
 have e2 : [y].filter (fun y => decide (x.at_.num < y.at_.num)) = [] := by rw [List.filter_cons_of_neg (by simp [h]), List.filter_nil]
 unfold putI putD
 rw [List.filter_append, List.filter_append, e1, e2, List.append_nil, List.append_nil]
 exact ⟨rfl, rfl⟩
theorem putI_lt {x y : Ac} {l : List Ac} (h : y.at_.num < x.at_.num) (hs : (l ++ [y]).Pairwise fun x y => x.at_.num < y.at_.num) : putI x (l ++ [y]) = putI x l ++ [y] ∧ putD x (l ++ [y]) = putD x l := by
 have e1 : [y].filter (fun y => decide (y.at_.num < x.at_.num)) = [y] := by rw [List.filter_cons_of_pos (by simpa using h), List.filter_nil]
 have e2 : [y].filter (fun y => decide (x.at_.num < y.at_.num)) = [] := by rw [List.filter_cons_of_neg (by simp; omega), List.filter_nil]
 have e3 : l.filter (fun y => decide (x.at_.num < y.at_.num)) = [] := List.filter_eq_nil_iff.2 fun z hz => by
  have := (List.pairwise_append.1 hs).2.2 z hz y (List.mem_singleton.2 rfl)
  simp only [decide_eq_true_eq]; omega
 unfold putI putD
 rw [List.filter_append, List.filter_append, e1, e2, e3]
 simp
theorem putI_gt {x y : Ac} {l : List Ac} (h : x.at_.num < y.at_.num) : putI x (l ++ [y]) = (putI x l ++ (if putD x l then [] else [x])) ++ [y] ∧ putD x (l ++ [y]) = true := by
 have e1 : [y].filter (fun y => decide (y.at_.num < x.at_.num)) = [] := by rw [List.filter_cons_of_neg (by simp; omega), List.filter_nil]
 have e2 : [y].filter (fun y => decide (x.at_.num < y.at_.num)) = [y] := by rw [List.filter_cons_of_pos (by simpa using h), List.filter_nil]
 unfold putI putD
 rw [List.filter_append, List.filter_append, e1, e2]
 generalize l.filter (fun y => decide (x.at_.num < y.at_.num)) = g
 generalize l.filter (fun y => decide (y.at_.num < x.at_.num)) = f
 cases emptyA x <;> cases g <;> simp
theorem putI_end (x : Ac) (l : List Ac) : putI x l ++ (if putD x l then [] else [x]) = putS l x := by
 unfold putI putD putS
 generalize l.filter (fun y => decide (x.at_.num < y.at_.num)) = g
 generalize l.filter (fun y => decide (y.at_.num < x.at_.num)) = f
 cases emptyA x <;> cases g <;> simp
end Go.Ev
namespace Go.Proofs.YtpcjmmdgopihcaaGreatDoor
open Go Go.Ev Go.Proofs
def plRR : Plans := fun i => if i = 4 then [] else Tryz.pl13 i
attribute [push_cast] plRR
theorem refRightS_ok {M : Hp} {s : List Ac} {v : Value} (hv : StR s v M) (hm : marksOf M = []) (hn : s.length ≤ 2199023255551) (hsl : ∀ x ∈ s, x.slots.length ≤ 2199023255551) : CallsV Tryz.prog 13 [v] M (Ret0 (.bool (rightS s))) := by
 obtain ⟨L, rfl, hL, hS⟩ := hv
 have hlen : (L.map (·.1)).length = L.length := List.length_map _
 rw [hlen] at hn
 obtain ⟨p, c, rfl, hl⟩ := hL.openA
 refine callsO gA1_ok Tryz.mix plRR Tryz.func13 rfl Tryz.ntmps13 Tryz.results13 rfl (by first | rfl | assumption) (Nat.le_of_ble_eq_true rfl) (by kernel_rfl) ?_
 simp only [push_cast, seval, reduceCtorEq]
 refine loopO gA1_ok (pl := plRR) Tryz.mix (X := Nat)
  (fun i => ([(0, .slice p L.length c), (3, .int .i64 i)], M))
  (fun i => i ≤ L.length ∧ ∀ j, j < i → okAt (L.map (·.1)) j = true) (fun i => L.length - i) 0 ?_ ?_ (by kernel_rfl) ?_
 · exact ⟨Nat.zero_le _, fun j hj => absurd hj (Nat.not_lt_zero _)⟩
 · simp only [push_cast, seval, reduceCtorEq]
   try exact subH_self _
 · rintro i ⟨hi, hok⟩
   dsimp only at hi hok ⊢
   rcases Nat.lt_or_ge i L.length with hlt | hge
   · obtain h0 | ⟨b, f, d, kd, cs, rfl, he, hat⟩ := hl
     · rw [h0] at hlt; exact absurd hlt (Nat.not_lt_zero _)
     obtain ⟨x, hx⟩ : ∃ x, L[i]? = some x := ⟨L[i], List.getElem?_eq_getElem hlt⟩
     obtain ⟨a0, a1, a2⟩ := hat i x hx
     obtain ⟨a3, a4⟩ := a0 0 20 (by decide)
     rw [Nat.add_zero] at a3 a4
     rw [List.drop_zero, show List.take 20 (acC x) = x.1.at_.cells from x.1.at0 x.2] at a4
     have hxm := List.mem_of_getElem? hx
     have i1 : (i : Int) < (L.length : Int) := by omega
     simp only [push_cast, seval, reduceCtorEq, i1, hlt]
     have hs4 : derE M (roAll M) := derE_behind (L := []) (M := M) trivial
     have hsx := hS x hxm
     have cmay := refMay_ok (M := roAll M) (hsx.congr (cellsAt_roAll M).symm) (roAll_ro M).marks (hsl x.1 (List.mem_map_of_mem hxm))
     have cemp := refEmpty_ok (M := roAll M) (hsx.congr (cellsAt_roAll M).symm) (roAll_ro M).marks
     refine drawO gA1_ok Tryz.mix (Tryz.pl13 4) (by kernel_rfl) ?_
     have hxs : (L.map (·.1))[i]? = some x.1 := by rw [List.getElem?_map, hx]; rfl
     have hls : i < (L.map (·.1)).length := by rw [hlen]; exact hlt
     have bad : okAt (L.map (·.1)) i = false → rightS (L.map (·.1)) = false := rightS_bad hls
     have hok0 : okAt (L.map (·.1)) i = (mayA x.1 && (!emptyA x.1 && (decide (i = 0) || match (L.map (·.1))[i - 1]? with
      | some y => decide (y.at_.num < x.1.at_.num)
      | none => true))) := by unfold okAt; rw [hxs]; rfl
     simp only [push_cast, seval, reduceCtorEq, i1, hlt, he, a1, a2]
     refine TakeV.mk hs4 cmay ?_
     cases hmay : mayA x.1
     · have e := bad (by rw [hok0, hmay]; rfl)
       simp only [push_cast, seval, reduceCtorEq, e]
     simp only [push_cast, seval, reduceCtorEq, i1, hlt, he, a1, a2]
     refine TakeV.mk hs4 cemp ?_
     cases hemp : emptyA x.1
     case true =>
      have e := bad (by rw [hok0, hmay, hemp]; rfl)
      simp only [push_cast, seval, reduceCtorEq, e]
     rcases Nat.eq_zero_or_pos i with rfl | hpos
     · have e0 : okAt (L.map (·.1)) 0 = true := by rw [hok0, hmay, hemp]; rfl
       simp only [push_cast, seval, reduceCtorEq, Int.lt_irrefl, Nat.lt_irrefl, wrap_i64' (show -9223372036854775808 ≤ (0 : Int) + 1 ∧ (0 : Int) + 1 ≤ 9223372036854775807 by omega)]
       exact ⟨1, ⟨hlt, fun j hj => by rw [Nat.lt_one_iff.1 hj]; exact e0⟩, by omega, rfl⟩
     · obtain ⟨k, rfl⟩ : ∃ k, i = k + 1 := ⟨i - 1, by omega⟩
       have hk : k < L.length := by omega
       obtain ⟨y, hy⟩ : ∃ y, L[k]? = some y := ⟨L[k], List.getElem?_eq_getElem hk⟩
       obtain ⟨y1, y2⟩ := (hat k y hy).1 0 20 (by decide)
       rw [Nat.add_zero] at y1 y2
       rw [List.drop_zero, show List.take 20 (acC y) = y.1.at_.cells from y.1.at0 y.2] at y2
       have hys : (L.map (·.1))[k]? = some y.1 := by rw [List.getElem?_map, hy]; rfl
       have hokk : okAt (L.map (·.1)) (k + 1) = decide (y.1.at_.num < x.1.at_.num) := by
        rw [hok0, hmay, hemp, Nat.add_sub_cancel, hys]
        simp
       have p1 : (0 : Int) < (k : Int) + 1 := by omega
       have p2 : (k : Int) + 1 - 1 = (k : Int) := by omega
       have p3 : (k : Int) < (L.length : Int) := by omega
       have p4 : (0 : Int) ≤ (k : Int) + 1 := by omega
       have p5 : (k : Int) + 1 < (L.length : Int) := by omega
       have p6 : ((k : Int) + 1).toNat = k + 1 := by omega
       by_cases hord : y.1.at_.num < x.1.at_.num
       · have e0 : okAt (L.map (·.1)) (k + 1) = true := by rw [hokk, decide_eq_true hord]
         have ec : lessA y.1.at_ x.1.at_ = true := by rw [lessA_eq, decide_eq_true hord]
         simp only [push_cast, seval, reduceCtorEq, p1, p2, p3, p4, p5, p6, hk, wrap_i64' (show -9223372036854775808 ≤ (k : Int) ∧ (k : Int) ≤ 9223372036854775807 by omega), he, a3, a4, y1, y2, i1, hlt, ec, wrap_i64' (show -9223372036854775808 ≤ (k : Int) + 1 + 1 ∧ (k : Int) + 1 + 1 ≤ 9223372036854775807 by omega)]
         refine ⟨k + 2, ⟨hlt, fun j hj => ?_⟩, by omega, rfl⟩
         rcases Nat.lt_or_ge j (k + 1) with h | h
         · exact hok j h
         · obtain rfl : j = k + 1 := by omega
           exact e0
       · have e := bad (by rw [hokk, decide_eq_false hord])
         have ec : lessA y.1.at_ x.1.at_ = false := by rw [lessA_eq, decide_eq_false hord]
         simp only [push_cast, seval, reduceCtorEq, p1, p2, p3, p4, p5, p6, hk, wrap_i64' (show -9223372036854775808 ≤ (k : Int) ∧ (k : Int) ≤ 9223372036854775807 by omega), he, a3, a4, y1, y2, i1, hlt, ec, e]
   · obtain rfl : i = L.length := by omega
     have e : rightS (L.map (·.1)) = decide (L.length ≤ 200) := by rw [rightS_end (by rw [hlen]; exact hok), hlen]
     have e2 : decide ((L.length : Int) ≤ 200) = decide (L.length ≤ 200) := by rw [decide_eq_decide]; omega
     simp only [push_cast, seval, reduceCtorEq, Nat.lt_irrefl, Int.lt_irrefl, e, e2]
def plRSet : Plans := fun i => if i = 1 then [(0, 9)] else if i = 9 then [] else if i = 12 then [(0, 9)] else if i = 13 then [(0, 9)] else Tryz.pl23 i
attribute [push_cast] plRSet
theorem refSet_ok {M : Hp} {s : List Ac} {v sv : Value} {x : Ac} (hv : StR s v M) (hx : LiR Sl.cells 8 M x.slots sv) (hn : s.length ≤ 1000000000) (hsl : ∀ y ∈ s, y.slots.length ≤ 2199023255551) (hxl : x.slots.length ≤ 2199023255551) : CallsW Tryz.prog 23 [v, .agg (x.cells sv).toArray] M (SetO 31 (setS s x)) := by
 intro M0 hr he
 have hm := hr.marks
 replace hv := StR.rd _ _ _ _ he.symm hv
 replace hx := hx.congr he.symm
 have ho := x.all1 sv hx.one
 refine callsO gA1_ok Tryz.mix plRSet Tryz.func23 rfl Tryz.ntmps23 Tryz.results23 rfl (by first | rfl | assumption) (Nat.le_of_ble_eq_true rfl) (by kernel_rfl) ?_
 simp only [push_cast, seval, reduceCtorEq]
 intro b3 hb3
 have hL3 : freshN [⟨b3, 0, .cel 31, x.cells sv⟩] M0 := ⟨hb3, trivial⟩
 refine regO gA1_ok ?_
 simp only [push_cast, seval, reduceCtorEq]
 refine useP [_] (fun M1 hr1 he1 => refRightS_ok (StR.rd _ _ _ _ he1.symm hv) hr1.marks (by omega) hsl) hL3 ?_
 cases hrs : rightS s
 case false =>
  have e : setS s x = ([], 1) := by unfold setS; rw [hrs]; rfl
  rw [e]
  simp only [push_cast, seval, reduceCtorEq]
  exact doneN [_] (N1 := []) (M1 := M0) (Gr.refl hm) trivial rfl trivial (SetO.rd _ _) ⟨_, rfl, StO.nil _ _⟩
 simp only [push_cast, seval, reduceCtorEq]
 refine useP [_] (fun M1 hr1 he1 => refMay_ok (hx.congr he1.symm) hr1.marks hxl) hL3 ?_
 cases hmx : mayA x
 case false =>
  have e : setS s x = ([], 1) := by unfold setS; rw [hrs, hmx]; rfl
  rw [e]
  simp only [push_cast, seval, reduceCtorEq]
  exact doneN [_] (N1 := []) (M1 := M0) (Gr.refl hm) trivial rfl trivial (SetO.rd _ _) ⟨_, rfl, StO.nil _ _⟩
 simp only [push_cast, seval, reduceCtorEq]
 have hri := rightS_iff.1 hrs
 refine useP [_] (fun M1 hr1 he1 => refEmpty_ok (hx.congr he1.symm) hr1.marks) hL3 ?_
 simp only [push_cast, seval, reduceCtorEq]
 have hset : setS s x = if 200 < (putS s x).length then ([], 2) else (putS s x, 0) := by
  unfold setS; rw [hrs, hmx]; rfl
 obtain ⟨L, rfl, hl, hsL⟩ := hv
 have hlen : (L.map (·.1)).length = L.length := List.length_map _
 have hl200 : L.length ≤ 200 := by have := hri.len; rw [hlen] at this; exact this
 obtain ⟨p, k, rfl, hla⟩ := hl.openA
 refine loopO gA1_ok (pl := plRSet) Tryz.mix (X := Nat × List (Ac × Value) × Value × Hp × Hp)
  (fun t => ([(0, .slice p L.length k), (3, .pointer (some ⟨b3, 0, none⟩)), (6, t.2.2.1), (7, .bool (putD x ((L.take t.1).map (·.1)))), (8, .int .i64 t.1)], ⟨b3, 0, .cel 31, x.cells sv⟩ :: (t.2.2.2.1 ++ t.2.2.2.2)))
  (fun t => t.1 ≤ L.length ∧ t.2.1.map (·.1) = putI x ((L.take t.1).map (·.1)) ∧ OutC 31 27 (t.2.1.flatMap acC) t.2.1.length t.2.2.1 t.2.2.2.1 ∧ Gr M0 t.2.2.2.2 ∧ freshN t.2.2.2.1 (⟨b3, 0, .cel 31, x.cells sv⟩ :: t.2.2.2.2) ∧ fresh b3 t.2.2.2.2 ∧ t.2.1.length ≤ 2 * t.1 ∧ ∀ y ∈ t.2.1, LiR Sl.cells 8 t.2.2.2.2 y.1.slots y.2)
  (fun t => L.length - t.1) (0, [], .slice none 0 0, [], M0) ?_ ?_ (by kernel_rfl) ?_
 · refine ⟨Nat.zero_le _, ?_, OutC.nil _ _, Gr.refl hm, trivial, hb3, Nat.zero_le _, fun y hy => by cases hy⟩
   simp [putI]
 · have e0 : putD x [] = emptyA x := by simp [putD]
   simp only [push_cast, seval, reduceCtorEq, e0]
 · rintro ⟨i, B, u, N, M1⟩ ⟨hi, hB, hou, hg, hf, hf3, hBl, hsB⟩
   dsimp only at hi hB hou hg hf hf3 hBl hsB ⊢
   rcases Nat.lt_or_ge i L.length with hlt | hge
   · obtain ⟨y, hy⟩ : ∃ y, L[i]? = some y := ⟨L[i], List.getElem?_eq_getElem hlt⟩
     rcases hla with rfl | ⟨b, f', d, kd, cs, rfl, hfe, hat⟩
     · simp at hlt
     obtain ⟨a0, a1, a2⟩ := hat i y hy
     obtain ⟨a3, a4⟩ := a0 0 20 (by decide)
     rw [Nat.add_zero] at a3 a4
     rw [List.drop_zero, show List.take 20 (acC y) = y.1.at_.cells from y.1.at0 y.2] at a4
     have hym := List.mem_of_getElem? hy
     have i1 : (i : Int) < (L.length : Int) := by omega
     have n3 := (fresh_findS hb3 hfe).2
     have hfe1 : findE (N ++ M1) b = some ⟨b, f', kd, cs⟩ := by
      rw [findE_freshN (freshN_cons hf) (hg.find hfe)]; exact hg.find hfe
     have hst : (L.take (i + 1)).map (·.1) = (L.take i).map (·.1) ++ [y.1] := by rw [List.take_add_one, hy, List.map_append]; rfl
     have hsrt : ((L.take i).map (·.1) ++ [y.1]).Pairwise fun x y => x.at_.num < y.at_.num := by
      rw [← hst, List.map_take]; exact hri.srt.sublist (List.take_sublist _ _)
     by_cases hya : y.1.at_ = x.at_
     · obtain ⟨g1, g2⟩ := putI_same (l := (L.take i).map (·.1)) hya
       have hT := hst
       simp only [push_cast, seval, reduceCtorEq, i1, hlt, hfe1, n3, a3, a4, hya, decide_true, wrap_i64' (show -9223372036854775808 ≤ (i : Int) + 1 ∧ (i : Int) + 1 ≤ 9223372036854775807 by omega)]
       refine ⟨(i + 1, B, u, N, M1), ⟨hlt, by rw [hst, g1]; exact hB, hou, hg, hf, hf3, by dsimp only; omega, hsB⟩, by dsimp only; omega, ?_⟩
       rw [hst, g2]
       simp only [push_cast, seval, reduceCtorEq]
     · simp only [push_cast, seval, reduceCtorEq, i1, hlt, hfe1, n3, a3, a4, hya, decide_false]
       refine drawO gA1_ok Tryz.mix (Tryz.pl23 9) (by kernel_rfl) ?_
       have hne : ¬ y.1.at_.num = x.at_.num := fun e => hya (Ad.num_inj e)
       rcases Nat.lt_or_ge y.1.at_.num x.at_.num with hlo | hhi
       · obtain ⟨g1, g2⟩ := putI_lt hlo hsrt
         have hT : putD x ((L.take (i + 1)).map (·.1)) = putD x ((L.take i).map (·.1)) := by rw [hst, g2]
         have hle : lessA x.at_ y.1.at_ = false := by rw [lessA_eq, decide_eq_false (by omega)]
         cases hdn : putD x ((L.take i).map (·.1))
         · simp only [push_cast, seval, reduceCtorEq, i1, hlt, hfe1, n3, a3, a4, hle]
           refine regO gA1_ok ?_
           have hfe2 : findE (N ++ M1) b = some ⟨b, f', kd, cs⟩ := by
            rw [findE_freshN (freshN_cons hf) (hg.find hfe)]; exact hg.find hfe
           simp only [push_cast, seval, reduceCtorEq, i1, hlt, hfe2, n3, a1, a2]
           refine useL (⟨b3, 0, .cel 31, x.cells sv⟩ :: N) (refown_ok ((hsL y hym).ext hg.ext) (by have := hsl y.1 (List.mem_map_of_mem hym); omega)) (AcR.rd _) hg.marks ⟨hf3, freshN_cons hf⟩ fun w9 M9 hg9 hf9 hq9 => ?_
           obtain ⟨sv9, rfl, hsv9⟩ := hq9
           obtain ⟨p9, k9, rfl⟩ := hsv9.slice
           simp only [push_cast, seval, reduceCtorEq]
           intro b9 hb9
           have hb9' := fresh_app_iff.1 hb9.2.2
           have h3N := freshN_sym (freshN_cons2 hf)
           refine push_ac [⟨b3, 0, .cel 31, x.cells sv⟩] hou ⟨hb9'.1, h3N.1, trivial⟩ (by omega) fun u8 N8 ho8 hf8 => ?_
           simp only [push_cast, seval, reduceCtorEq, wrap_i64' (show -9223372036854775808 ≤ (i : Int) + 1 ∧ (i : Int) + 1 ≤ 9223372036854775807 by omega)]
           refine ⟨(i + 1, B ++ [(y.1, Value.slice p9 y.1.slots.length k9)], u8, N8, M9), ⟨hlt, ?_, ho8, hg.trans hg9, freshN_cons hf8, hf9.1, by dsimp only; rw [List.length_append, List.length_singleton]; omega, fun z hz => ?_⟩, by dsimp only; omega, ?_⟩
           · rw [List.map_append, hB, hst, g1]; rfl
           · rcases List.mem_append.1 hz with hz | hz
             · exact (hsB z hz).ext hg9.ext
             · rw [List.mem_singleton.1 hz]; exact hsv9
           · refine ⟨by simp only [push_cast, seval, reduceCtorEq, hT, hdn], subH_bring (A := [_]) (fresh_blk (freshN_cons hf8)) (fun z hz => ?_) ⟨hb9'.2, trivial⟩, ?_⟩
             · rw [List.mem_singleton.1 hz]; exact hb9.2.1
             · simp [marks_append, marksOf]
         · simp only [push_cast, seval, reduceCtorEq, i1, hlt, hfe1, n3, a3, a4, hle]
           refine regO gA1_ok ?_
           have hfe2 : findE (N ++ M1) b = some ⟨b, f', kd, cs⟩ := by
            rw [findE_freshN (freshN_cons hf) (hg.find hfe)]; exact hg.find hfe
           simp only [push_cast, seval, reduceCtorEq, i1, hlt, hfe2, n3, a1, a2]
           refine useL (⟨b3, 0, .cel 31, x.cells sv⟩ :: N) (refown_ok ((hsL y hym).ext hg.ext) (by have := hsl y.1 (List.mem_map_of_mem hym); omega)) (AcR.rd _) hg.marks ⟨hf3, freshN_cons hf⟩ fun w9 M9 hg9 hf9 hq9 => ?_
           obtain ⟨sv9, rfl, hsv9⟩ := hq9
           obtain ⟨p9, k9, rfl⟩ := hsv9.slice
           simp only [push_cast, seval, reduceCtorEq]
           intro b9 hb9
           have hb9' := fresh_app_iff.1 hb9.2.2
           have h3N := freshN_sym (freshN_cons2 hf)
           refine push_ac [⟨b3, 0, .cel 31, x.cells sv⟩] hou ⟨hb9'.1, h3N.1, trivial⟩ (by omega) fun u8 N8 ho8 hf8 => ?_
           simp only [push_cast, seval, reduceCtorEq, wrap_i64' (show -9223372036854775808 ≤ (i : Int) + 1 ∧ (i : Int) + 1 ≤ 9223372036854775807 by omega)]
           refine ⟨(i + 1, B ++ [(y.1, Value.slice p9 y.1.slots.length k9)], u8, N8, M9), ⟨hlt, ?_, ho8, hg.trans hg9, freshN_cons hf8, hf9.1, by dsimp only; rw [List.length_append, List.length_singleton]; omega, fun z hz => ?_⟩, by dsimp only; omega, ?_⟩
           · rw [List.map_append, hB, hst, g1]; rfl
           · rcases List.mem_append.1 hz with hz | hz
             · exact (hsB z hz).ext hg9.ext
             · rw [List.mem_singleton.1 hz]; exact hsv9
           · refine ⟨by simp only [push_cast, seval, reduceCtorEq, hT, hdn], subH_bring (A := [_]) (fresh_blk (freshN_cons hf8)) (fun z hz => ?_) ⟨hb9'.2, trivial⟩, ?_⟩
             · rw [List.mem_singleton.1 hz]; exact hb9.2.1
             · simp [marks_append, marksOf]
       · have hgt : x.at_.num < y.1.at_.num := by omega
         obtain ⟨g1, g2⟩ := putI_gt (l := (L.take i).map (·.1)) hgt
         have hT : putD x ((L.take (i + 1)).map (·.1)) = true := by rw [hst, g2]
         have hle : lessA x.at_ y.1.at_ = true := by rw [lessA_eq, decide_eq_true hgt]
         cases hdn : putD x ((L.take i).map (·.1))
         · simp only [push_cast, seval, reduceCtorEq, i1, hlt, hfe1, n3, a3, a4, hle]
           refine useL (⟨b3, 0, .cel 31, x.cells sv⟩ :: N) (refown_ok (hx.ext hg.ext) (by omega)) (AcR.rd _) hg.marks ⟨hf3, freshN_cons hf⟩ fun w2 M2 hg2 hf2 hq2 => ?_
           obtain ⟨sv2, rfl, hsv2⟩ := hq2
           obtain ⟨p2, k2, rfl⟩ := hsv2.slice
           simp only [push_cast, seval, reduceCtorEq]
           intro b5 hb5
           have hb5' := fresh_app_iff.1 hb5.2.2
           have h3N := freshN_sym (freshN_cons2 hf)
           refine push_ac [⟨b3, 0, .cel 31, x.cells sv⟩] hou ⟨hb5'.1, h3N.1, trivial⟩ (by omega) fun u3 N3 ho3 hf3' => ?_
           simp only [push_cast, seval, reduceCtorEq]
           refine WpV.sub (s := ([(0, .slice (some ⟨b, f' + d, none⟩) L.length k), (3, .pointer (some ⟨b3, 0, none⟩)), (6, u3), (7, .bool true), (8, .int .i64 i)], ⟨b3, 0, .cel 31, x.cells sv⟩ :: (N3 ++ M2))) ⟨by simp only [push_cast, seval, reduceCtorEq], subH_bring (A := [_]) (fresh_blk (freshN_cons hf3')) (fun z hz => ?_) ⟨hb5'.2, trivial⟩, ?_⟩ ?_
           · rw [List.mem_singleton.1 hz]; exact hb5.2.1
           · simp [marks_append, marksOf]
           have hgg := hg.trans hg2
           have hff := freshN_cons hf3'
           have hsBB : ∀ z ∈ B ++ [(x, Value.slice p2 x.slots.length k2)], LiR Sl.cells 8 M2 z.1.slots z.2 := fun z hz => by
            rcases List.mem_append.1 hz with hz | hz
            · exact (hsB z hz).ext hg2.ext
            · rw [List.mem_singleton.1 hz]; exact hsv2
           have hBB : (B ++ [(x, Value.slice p2 x.slots.length k2)]).length ≤ 2 * i + 1 := by rw [List.length_append, List.length_singleton]; omega
           refine regO gA1_ok ?_
           have hfe2 : findE (N3 ++ M2) b = some ⟨b, f', kd, cs⟩ := by
            rw [findE_freshN (freshN_cons hff) (hgg.find hfe)]; exact hgg.find hfe
           simp only [push_cast, seval, reduceCtorEq, i1, hlt, hfe2, n3, a1, a2]
           refine useL (⟨b3, 0, .cel 31, x.cells sv⟩ :: N3) (refown_ok ((hsL y hym).ext hgg.ext) (by have := hsl y.1 (List.mem_map_of_mem hym); omega)) (AcR.rd _) hgg.marks ⟨hf2.1, freshN_cons hff⟩ fun w9 M9 hg9 hf9 hq9 => ?_
           obtain ⟨sv9, rfl, hsv9⟩ := hq9
           obtain ⟨p9, k9, rfl⟩ := hsv9.slice
           simp only [push_cast, seval, reduceCtorEq]
           intro b9 hb9
           have hb9' := fresh_app_iff.1 hb9.2.2
           have h3N := freshN_sym (freshN_cons2 hff)
           refine push_ac [⟨b3, 0, .cel 31, x.cells sv⟩] ho3 ⟨hb9'.1, h3N.1, trivial⟩ (by omega) fun u8 N8 ho8 hf8 => ?_
           simp only [push_cast, seval, reduceCtorEq, wrap_i64' (show -9223372036854775808 ≤ (i : Int) + 1 ∧ (i : Int) + 1 ≤ 9223372036854775807 by omega)]
           refine ⟨(i + 1, (B ++ [(x, Value.slice p2 x.slots.length k2)]) ++ [(y.1, Value.slice p9 y.1.slots.length k9)], u8, N8, M9), ⟨hlt, ?_, ho8, hgg.trans hg9, freshN_cons hf8, hf9.1, by dsimp only; rw [List.length_append, List.length_singleton]; omega, fun z hz => ?_⟩, by dsimp only; omega, ?_⟩
           · rw [List.map_append, List.map_append, hB, hst, g1, hdn]; rfl
           · rcases List.mem_append.1 hz with hz | hz
             · exact (hsBB z hz).ext hg9.ext
             · rw [List.mem_singleton.1 hz]; exact hsv9
           · refine ⟨by simp only [push_cast, seval, reduceCtorEq, hT, hdn], subH_bring (A := [_]) (fresh_blk (freshN_cons hf8)) (fun z hz => ?_) ⟨hb9'.2, trivial⟩, ?_⟩
             · rw [List.mem_singleton.1 hz]; exact hb9.2.1
             · simp [marks_append, marksOf]
         · simp only [push_cast, seval, reduceCtorEq, i1, hlt, hfe1, n3, a3, a4, hle]
           refine regO gA1_ok ?_
           have hfe2 : findE (N ++ M1) b = some ⟨b, f', kd, cs⟩ := by
            rw [findE_freshN (freshN_cons hf) (hg.find hfe)]; exact hg.find hfe
           simp only [push_cast, seval, reduceCtorEq, i1, hlt, hfe2, n3, a1, a2]
           refine useL (⟨b3, 0, .cel 31, x.cells sv⟩ :: N) (refown_ok ((hsL y hym).ext hg.ext) (by have := hsl y.1 (List.mem_map_of_mem hym); omega)) (AcR.rd _) hg.marks ⟨hf3, freshN_cons hf⟩ fun w9 M9 hg9 hf9 hq9 => ?_
           obtain ⟨sv9, rfl, hsv9⟩ := hq9
           obtain ⟨p9, k9, rfl⟩ := hsv9.slice
           simp only [push_cast, seval, reduceCtorEq]
           intro b9 hb9
           have hb9' := fresh_app_iff.1 hb9.2.2
           have h3N := freshN_sym (freshN_cons2 hf)
           refine push_ac [⟨b3, 0, .cel 31, x.cells sv⟩] hou ⟨hb9'.1, h3N.1, trivial⟩ (by omega) fun u8 N8 ho8 hf8 => ?_
           simp only [push_cast, seval, reduceCtorEq, wrap_i64' (show -9223372036854775808 ≤ (i : Int) + 1 ∧ (i : Int) + 1 ≤ 9223372036854775807 by omega)]
           refine ⟨(i + 1, B ++ [(y.1, Value.slice p9 y.1.slots.length k9)], u8, N8, M9), ⟨hlt, ?_, ho8, hg.trans hg9, freshN_cons hf8, hf9.1, by dsimp only; rw [List.length_append, List.length_singleton]; omega, fun z hz => ?_⟩, by dsimp only; omega, ?_⟩
           · rw [List.map_append, hB, hst, g1, hdn, show (if true = true then ([] : List Ac) else [x]) = [] from rfl, List.append_nil]; rfl
           · rcases List.mem_append.1 hz with hz | hz
             · exact (hsB z hz).ext hg9.ext
             · rw [List.mem_singleton.1 hz]; exact hsv9
           · refine ⟨by simp only [push_cast, seval, reduceCtorEq, hT, hdn], subH_bring (A := [_]) (fresh_blk (freshN_cons hf8)) (fun z hz => ?_) ⟨hb9'.2, trivial⟩, ?_⟩
             · rw [List.mem_singleton.1 hz]; exact hb9.2.1
             · simp [marks_append, marksOf]
   · obtain rfl : i = L.length := by omega
     rw [List.take_length] at hB
     simp only [push_cast, seval, reduceCtorEq, Nat.lt_irrefl, Int.lt_irrefl]
     refine regO gA1_ok ?_
     have hend := putI_end x (L.map (·.1))
     have hfe0 := freshN_cons hf
     have h3N := freshN_sym (freshN_cons2 hf)
     cases hdn : putD x (L.map (·.1))
     · rw [hdn, show (if false = true then ([] : List Ac) else [x]) = [x] from rfl] at hend
       rw [List.take_length, hdn]
       simp only [push_cast, seval, reduceCtorEq]
       refine useL (⟨b3, 0, .cel 31, x.cells sv⟩ :: N) (refown_ok (hx.ext hg.ext) (by omega)) (AcR.rd _) hg.marks ⟨hf3, hfe0⟩ fun w2 M2 hg2 hf2 hq2 => ?_
       obtain ⟨sv2, rfl, hsv2⟩ := hq2
       obtain ⟨p2, k2, rfl⟩ := hsv2.slice
       simp only [push_cast, seval, reduceCtorEq]
       intro b5 hb5
       have hb5' := fresh_app_iff.1 hb5.2.2
       refine push_ac [⟨b3, 0, .cel 31, x.cells sv⟩] hou ⟨hb5'.1, h3N.1, trivial⟩ (by omega) fun u3 N3 ho3 hf3' => ?_
       have hff := freshN_cons (freshN_cons hf3')
       have hlB : (B ++ [(x, Value.slice p2 x.slots.length k2)]).length = (putS (L.map (·.1)) x).length := by rw [← hend, ← hB, List.length_append, List.length_append, List.length_map]; rfl
       obtain ⟨pu, ku, rfl⟩ := ho3.slice
       obtain ⟨n, hnB⟩ : ∃ n, n = (B ++ [(x, Value.slice p2 x.slots.length k2)]).length := ⟨_, rfl⟩
       rw [← hnB] at hlB
       rw [← hlB] at hset
       have hmm : marksOf (N3 ++ ⟨b5, 0, .vec 31 27 1, x.cells (Value.slice p2 x.slots.length k2)⟩ :: ⟨b3, 0, .cel 31, x.cells sv⟩ :: M2) = [] := by rw [marks_append, ho3.wr.2]; exact hg2.marks
       have hsub : (N3 ++ dropM M2).Sublist (dropM (N3 ++ ⟨b5, 0, .vec 31 27 1, x.cells (Value.slice p2 x.slots.length k2)⟩ :: ⟨b3, 0, .cel 31, x.cells sv⟩ :: M2)) := by
        rw [dropM_eq hmm, dropM_eq hg2.marks]
        exact (List.Sublist.refl N3).append (((List.Sublist.refl _).cons _).cons _)
       by_cases h2 : 200 < n
       · rw [if_pos h2] at hset
         have i1 : (200 : Int) < (n : Int) := by omega
         rw [hset]
         simp only [push_cast, seval, reduceCtorEq, ← hnB, i1, h2]
         exact doneS (N1 := []) (M1 := M2) (hg.trans hg2) trivial rfl trivial (SetO.rd _ _) ⟨_, rfl, StO.nil _ _⟩ ((List.sublist_append_right N3 _).trans hsub)
       · rw [if_neg h2] at hset
         have i1 : ¬ (200 : Int) < (n : Int) := by omega
         rw [hset]
         simp only [push_cast, seval, reduceCtorEq, ← hnB, i1, h2]
         rw [← hnB] at ho3
         refine doneS (N1 := N3) (M1 := M2) (hg.trans hg2) ho3.wr.1 ho3.wr.2 hff (SetO.rd _ _) ⟨_, rfl, B ++ [(x, Value.slice p2 x.slots.length k2)], by rw [List.map_append, hB, ← hend]; rfl, by rw [← hnB]; exact ho3.g, fun z hz => ?_⟩ hsub
         rcases List.mem_append.1 hz with hz | hz
         · exact (hsB z hz).ext hg2.ext
         · rw [List.mem_singleton.1 hz]; exact hsv2
     · rw [hdn, show (if true = true then ([] : List Ac) else [x]) = [] from rfl, List.append_nil] at hend
       have hlB : B.length = (putS (L.map (·.1)) x).length := by rw [← hend, ← hB, List.length_map]
       obtain ⟨n, hnB⟩ : ∃ n, n = B.length := ⟨_, rfl⟩
       obtain ⟨pu, ku, rfl⟩ := hou.slice
       rw [← hlB, ← hnB] at hset
       rw [List.take_length, hdn]
       have hmm : marksOf (N ++ M1) = [] := by rw [marks_append, hou.wr.2]; exact hg.marks
       have hsub : (N ++ dropM M1).Sublist (⟨b3, 0, .cel 31, x.cells sv⟩ :: dropM (N ++ M1)) := by
        rw [dropM_eq hmm, dropM_eq hg.marks]
        exact (List.Sublist.refl _).cons _
       by_cases h2 : 200 < n
       · rw [if_pos h2] at hset
         have i1 : (200 : Int) < (n : Int) := by omega
         rw [hset]
         simp only [push_cast, seval, reduceCtorEq, ← hnB, i1, h2]
         exact doneS (N1 := []) (M1 := M1) hg trivial rfl trivial (SetO.rd _ _) ⟨_, rfl, StO.nil _ _⟩ ((List.sublist_append_right N _).trans hsub)
       · rw [if_neg h2] at hset
         have i1 : ¬ (200 : Int) < (n : Int) := by omega
         rw [hset]
         simp only [push_cast, seval, reduceCtorEq, ← hnB, i1, h2]
         rw [← hnB] at hou
         exact doneS (N1 := N) (M1 := M1) hg hou.wr.1 hou.wr.2 hfe0 (SetO.rd _ _) ⟨_, rfl, B, by rw [hB, ← hend], by rw [← hnB]; exact hou.g, hsB⟩ hsub
end Go.Proofs.YtpcjmmdgopihcaaGreatDoor
namespace Go.Ev
section
variable (x : Ac) (sv : Value)
theorem Ac.setBal (w : W) : x.at_.cells ++ (w.cells ++ List.drop 24 (x.cells sv)) = (Ac.mk x.at_ w x.nonce x.code x.slots).cells sv := by
 have h := x.at_.len
 unfold Ac.cells
 rw [show 24 = x.at_.cells.length + 4 by omega, List.drop_length_add_append]; rfl
theorem Ac.setNonce (n : Int) : List.take 24 (x.cells sv) ++ .int .i64 n :: List.drop 25 (x.cells sv) = (Ac.mk x.at_ x.bal n x.code x.slots).cells sv := by
 have h := x.at_.len
 unfold Ac.cells
 rw [show 24 = x.at_.cells.length + 4 by omega, show 25 = x.at_.cells.length + 5 by omega, List.drop_length_add_append, List.take_length_add_append, List.append_assoc]; rfl
theorem Ac.setCode (s : ByteArray) : List.take 25 (x.cells sv) ++ .string s :: List.drop 26 (x.cells sv) = (Ac.mk x.at_ x.bal x.nonce s x.slots).cells sv := by
 have h := x.at_.len
 unfold Ac.cells
 rw [show 26 = x.at_.cells.length + 6 by omega, show 25 = x.at_.cells.length + 5 by omega, List.drop_length_add_append, List.take_length_add_append, List.append_assoc]; rfl
end
section
variable (c : Ch)
theorem Ch.pre : c.cells = ([.int .i64 c.kind] ++ c.at_.cells) ++ (c.key.cells ++ (c.val.cells ++ [.int .i64 c.nonce, .string c.code])) := by
 unfold Ch.cells
 rw [List.append_assoc]; rfl
theorem Ch.preLen : ([Value.int .i64 c.kind] ++ c.at_.cells).length = 21 := by rw [List.length_append, Ad.len]; rfl
theorem Ch.kind0 : List.take 1 c.cells = [.int .i64 c.kind] := by unfold Ch.cells; rfl
theorem Ch.at1 : List.take 20 (List.drop 1 c.cells) = c.at_.cells := by
 unfold Ch.cells
 rw [List.drop_succ_cons, List.drop_zero, List.take_left' c.at_.len]
theorem Ch.key21 : List.take 4 (List.drop 21 c.cells) = c.key.cells := by
 rw [c.pre, ← c.preLen, List.drop_left]; rfl
theorem Ch.val25 : List.take 4 (List.drop 25 c.cells) = c.val.cells := by
 rw [c.pre, show 25 = ([Value.int .i64 c.kind] ++ c.at_.cells).length + 4 by rw [c.preLen], List.drop_length_add_append]; rfl
theorem Ch.non29 : List.take 1 (List.drop 29 c.cells) = [.int .i64 c.nonce] := by
 rw [c.pre, show 29 = ([Value.int .i64 c.kind] ++ c.at_.cells).length + 8 by rw [c.preLen], List.drop_length_add_append]; rfl
theorem Ch.cod30 : List.take 1 (List.drop 30 c.cells) = [.string c.code] := by
 rw [c.pre, show 30 = ([Value.int .i64 c.kind] ++ c.at_.cells).length + 9 by rw [c.preLen], List.drop_length_add_append]; rfl
theorem Ch.take31 : List.take 31 c.cells = c.cells := List.take_of_length_le (Nat.le_of_eq c.len)
theorem Ch.drop31 : List.drop 31 c.cells = [] := List.drop_of_length_le (Nat.le_of_eq c.len)
theorem Ch.agg : Value.agg c.cells.toArray = c.v := rfl
theorem Ch.v_cells : c.v.cells = c.cells.toArray := rfl
theorem Ch.setKey (w : W) : List.take 21 c.cells ++ (w.cells ++ List.drop 25 c.cells) = (Ch.mk c.kind c.at_ w c.val c.nonce c.code).cells := by
 rw [c.pre, (Ch.mk c.kind c.at_ w c.val c.nonce c.code).pre, show 25 = ([Value.int .i64 c.kind] ++ c.at_.cells).length + 4 by rw [c.preLen], List.drop_length_add_append, show 21 = ([Value.int .i64 c.kind] ++ c.at_.cells).length by rw [c.preLen], List.take_left]; rfl
theorem Ch.setVal (w : W) : List.take 25 c.cells ++ (w.cells ++ List.drop 29 c.cells) = (Ch.mk c.kind c.at_ c.key w c.nonce c.code).cells := by
 rw [c.pre, (Ch.mk c.kind c.at_ c.key w c.nonce c.code).pre, show 25 = ([Value.int .i64 c.kind] ++ c.at_.cells).length + 4 by rw [c.preLen], show 29 = ([Value.int .i64 c.kind] ++ c.at_.cells).length + 8 by rw [c.preLen], List.drop_length_add_append, List.take_length_add_append, List.append_assoc]; rfl
theorem Ch.setNonce (n : Int) : List.take 29 c.cells ++ .int .i64 n :: List.drop 30 c.cells = (Ch.mk c.kind c.at_ c.key c.val n c.code).cells := by
 rw [c.pre, (Ch.mk c.kind c.at_ c.key c.val n c.code).pre, show 29 = ([Value.int .i64 c.kind] ++ c.at_.cells).length + 8 by rw [c.preLen], show 30 = ([Value.int .i64 c.kind] ++ c.at_.cells).length + 9 by rw [c.preLen], List.drop_length_add_append, List.take_length_add_append, List.append_assoc]; rfl
theorem Ch.setCode (s : ByteArray) : List.take 30 c.cells ++ [.string s] = (Ch.mk c.kind c.at_ c.key c.val c.nonce s).cells := by
 rw [c.pre, (Ch.mk c.kind c.at_ c.key c.val c.nonce s).pre, show 30 = ([Value.int .i64 c.kind] ++ c.at_.cells).length + 9 by rw [c.preLen], List.take_length_add_append, List.append_assoc]; rfl
theorem Ch.new (k : Int) (a : Ad) : Value.int .i64 k :: (a.cells ++ [.int .u64 0, .int .u64 0, .int .u64 0, .int .u64 0, .int .u64 0, .int .u64 0, .int .u64 0, .int .u64 0, .int .i64 0, .string .empty]) = (Ch.mk k a W.zero W.zero 0 .empty).cells := rfl
end
attribute [push_cast] Ch.len Ch.kind0 Ch.at1 Ch.key21 Ch.val25 Ch.non29 Ch.cod30 Ch.take31 Ch.drop31 Ch.agg Ch.v_cells Ch.setKey Ch.setVal Ch.setNonce Ch.setCode Ch.new Ch.all1 Ac.setBal Ac.setNonce Ac.setCode
theorem takeL {P : Program} {g : FuncId} {args : List Value} (L : Hp) {M : Hp} {v : Value} {K : Value → Prop} (hc : ∀ M0, roM M0 → cellsAt M0 = cellsAt M → CallsV P g args M0 (Ret0 v)) (hL : freshN L M) (hk : K v) : TakeV P g args (L ++ M) K :=
 TakeV.mk (derE_behind hL) (hc (roAll M) (roAll_ro M) (cellsAt_roAll M)) hk
def ChR (r : Ac × Ch × Int) : Value → Hp → Prop := fun v H => ∃ sv, v = .tuple #[.agg (r.1.cells sv).toArray, r.2.1.v, .int .i64 r.2.2] ∧ LiR Sl.cells 8 H r.1.slots sv
theorem ChR.rd (r : Ac × Ch × Int) : RdOnly (ChR r) := by
 rintro v A B h ⟨w, rfl, h1⟩
 exact ⟨w, rfl, h1.congr h⟩
end Go.Ev
namespace Go.Proofs.YtpcjmmdgopihcaaGreatDoor
open Go Go.Ev Go.Proofs
def plCh : Plans := fun i => if i = 1 then [(0, 9)] else if i = 12 then [] else if i = 13 then [(0, 9)] else Tryz.pl48 i
attribute [push_cast] plCh
theorem changed_ok {M : Hp} {x : Ac} {sv : Value} {c : Ch} (hs : LiR Sl.cells 8 M x.slots sv) (hn : x.slots.length ≤ 2199023255551) : CallsR Tryz.prog 48 [.agg (x.cells sv).toArray, c.v] M (ChR (chA x c)) := by
 intro M0 hr he
 have hm := hr.marks
 replace hs := hs.congr he.symm
 have ho := x.all1 sv hs.one
 obtain ⟨p, k, rfl⟩ := hs.slice
 refine callsO gA1_ok Tryz.mix plCh Tryz.func48 rfl Tryz.ntmps48 Tryz.results48 rfl (by first | rfl | assumption) (Nat.le_of_ble_eq_true rfl) (by kernel_rfl) ?_
 simp only [push_cast, seval, reduceCtorEq]
 intro b2 hb2 b3 hb3 b4 hb4 b5 hb5
 refine regO gA1_ok ?_
 simp only [push_cast, seval, reduceCtorEq, hb3, hb4, hb5]
 intro b7 hb7
 by_cases k1 : c.kind = 1
 · have e : chA x c = (⟨x.at_, c.val, x.nonce, x.code, x.slots⟩, ⟨c.kind, c.at_, W.zero, x.bal, 0, .empty⟩, 0) := by unfold chA; rw [if_pos k1]
   have e1 : (c.kind == 1) = true := by rw [k1]; rfl
   simp only [push_cast, seval, reduceCtorEq, hb3, hb4, hb5, hb7, e1]
   rw [e]
   exact doneK2 [_, _, _, _, _] (Gr.refl hm) (ChR.rd _) ⟨_, rfl, hs⟩
 have e1 : (c.kind == 1) = false := beq_eq_false_iff_ne.2 k1
 by_cases k2 : c.kind = 2
 · have e : chA x c = (⟨x.at_, x.bal, c.nonce, x.code, x.slots⟩, ⟨c.kind, c.at_, W.zero, W.zero, x.nonce, .empty⟩, 0) := by unfold chA; rw [if_neg k1, if_pos k2]
   have e2 : (c.kind == 2) = true := by rw [k2]; rfl
   simp only [push_cast, seval, reduceCtorEq, hb3, hb4, hb5, hb7, e1, e2]
   rw [e]
   exact doneK2 [_, _, _, _, _] (Gr.refl hm) (ChR.rd _) ⟨_, rfl, hs⟩
 have e2 : (c.kind == 2) = false := beq_eq_false_iff_ne.2 k2
 by_cases k3 : c.kind = 3
 · have e : chA x c = (⟨x.at_, x.bal, x.nonce, c.code, x.slots⟩, ⟨c.kind, c.at_, W.zero, W.zero, 0, x.code⟩, 0) := by unfold chA; rw [if_neg k1, if_neg k2, if_pos k3]
   have e3 : (c.kind == 3) = true := by rw [k3]; rfl
   simp only [push_cast, seval, reduceCtorEq, hb3, hb4, hb5, hb7, e1, e2, e3]
   rw [e]
   exact doneK2 [_, _, _, _, _] (Gr.refl hm) (ChR.rd _) ⟨_, rfl, hs⟩
 have e3 : (c.kind == 3) = false := beq_eq_false_iff_ne.2 k3
 by_cases k4 : c.kind = 4
 · have e : chA x c = (⟨x.at_, x.bal, x.nonce, x.code, (mergeR x.slots [⟨c.key, c.val⟩]).1⟩, ⟨c.kind, c.at_, c.key, getW x.slots c.key, 0, .empty⟩, (mergeR x.slots [⟨c.key, c.val⟩]).2) := by unfold chA; rw [if_neg k1, if_neg k2, if_neg k3, if_pos k4]
   have e4 : (c.kind == 4) = true := by rw [k4]; rfl
   simp only [push_cast, seval, reduceCtorEq, hb3, hb4, hb5, hb7, e1, e2, e3, e4]
   refine drawO gA1_ok Tryz.mix (Tryz.pl48 12) (by kernel_rfl) ?_
   simp only [push_cast, seval, reduceCtorEq, hb3, hb4, hb5, hb7]
   have f7 : fresh b7 M0 := hb7.2.2.2.2.2.2.2.2
   have f5 : fresh b5 M0 := hb5.2.2.2.2.2.2
   have f4 : fresh b4 M0 := hb4.2.2.2.2
   have f3 : fresh b3 M0 := hb3.2.2
   refine ⟨?_, ?_⟩
   all_goals
    refine takeL [_, _, _, _, _] (get_R (k := c.key) hs (by omega)) ⟨f7, f5, f4, f3, hb2, trivial⟩ ?_
    simp only [push_cast, seval, reduceCtorEq, hb3, hb4, hb5, hb7]
    refine regO gA1_ok ?_
    simp only [push_cast, seval, reduceCtorEq, hb3, hb4, hb5, hb7]
    refine useL [_, _, _, _, _] (put_R (k := c.key) (w := c.val) hs) (PutQ.rd _) hm ⟨f7, f5, f4, f3, hb2, trivial⟩ fun w M1 hg hL hq => ?_
    obtain ⟨w2, rfl, hl2⟩ := hq
    obtain ⟨p2, k2, rfl⟩ := hl2.slice
    simp only [push_cast, seval, reduceCtorEq, hb3, hb4, hb5, hb7]
    rw [e]
    exact doneK2 [_, _, _, _, _] hg (ChR.rd _) ⟨_, rfl, hl2⟩
 · have e4 : (c.kind == 4) = false := beq_eq_false_iff_ne.2 k4
   have e : chA x c = (x, ⟨c.kind, c.at_, W.zero, W.zero, 0, .empty⟩, 1) := by unfold chA; rw [if_neg k1, if_neg k2, if_neg k3, if_neg k4]
   simp only [push_cast, seval, reduceCtorEq, hb3, hb4, hb5, hb7, e1, e2, e3, e4]
   rw [e]
   exact doneK2 [_, _, _, _, _] (Gr.refl hm) (ChR.rd _) ⟨_, rfl, hs⟩
end Go.Proofs.YtpcjmmdgopihcaaGreatDoor
namespace Go.Ev
def DoO (e : Nat) (r : List Ac × Ch × Int) : Value → Hp → Hp → Prop := fun u N1 H => ∃ w, u = .tuple #[w, r.2.1.v, .int .i64 r.2.2] ∧ StO e r.1 w N1 H
theorem DoO.rd (e : Nat) (r : List Ac × Ch × Int) : RdOwn (DoO e r) := by
 rintro v N1 A B h ⟨w, rfl, h1⟩
 exact ⟨w, rfl, StO.rd _ _ _ _ _ _ h h1⟩
theorem subH_pick {e8 e7 e5 e3 : Ent} {N M : Hp} (h85 : ¬ e5.blk = e8.blk) (h75 : ¬ e5.blk = e7.blk) (h8 : fresh e8.blk M) (h7 : fresh e7.blk M) (h3 : fresh e3.blk M) (hN : freshN N M) : subH (e8 :: e7 :: e5 :: e3 :: (N ++ M)) (e5 :: M) := by
 refine ⟨by simp [findE, h85, h75], ?_⟩
 have : remE (e8 :: e7 :: e5 :: e3 :: (N ++ M)) e5.blk = [] ++ ((e8 :: e7 :: e3 :: N) ++ M) := by simp [remE, h85, h75]
 rw [this]
 exact subH_ins (A := e8 :: e7 :: e3 :: N) (B := M) ⟨h8, h7, h3, hN⟩ []
theorem freshN_appR {L N M : Hp} (h : freshN L (N ++ M)) : freshN L M := (freshN_mono h).2
theorem mergeR_len1 (l m : List Sl) : (mergeR l m).1.length ≤ 1000 := by
 unfold mergeR
 split
 · unfold limR
   split
   · simp
   · dsimp only; omega
 · simp
end Go.Ev
namespace Go.Proofs.YtpcjmmdgopihcaaGreatDoor
open Go Go.Ev Go.Proofs
def plRDo : Plans := fun i => if i = 1 then [(0, 9)] else if i = 4 then [(0, 9)] else if i = 8 then [(0, 9)] else if i = 21 then [(0, 9)] else if i = 23 then [(0, 9)] else Tryz.pl26 i
attribute [push_cast] plRDo
theorem refDo_ok {M : Hp} {s : List Ac} {v : Value} {c : Ch} (hv : StR s v M) (hn : s.length ≤ 1000000000) (hsl : ∀ y ∈ s, y.slots.length ≤ 2199023255551) : CallsW Tryz.prog 26 [v, c.v] M (DoO 31 (doS s c)) := by
 intro M0 hr he
 have hm := hr.marks
 replace hv := StR.rd _ _ _ _ he.symm hv
 obtain ⟨p, k, hvv⟩ : ∃ p k, v = .slice p s.length k := by
  obtain ⟨L, h1, h2, -⟩ := hv
  obtain ⟨p, k, h3⟩ := h2.slice
  exact ⟨p, k, by rw [h3, ← h1, List.length_map]⟩
 subst hvv
 refine callsO gA1_ok Tryz.mix plRDo Tryz.func26 rfl Tryz.ntmps26 Tryz.results26 rfl (by first | rfl | assumption) (Nat.le_of_ble_eq_true rfl) (by kernel_rfl) ?_
 simp only [push_cast, seval, reduceCtorEq]
 intro b3 hb3 b5 hb5
 have f3 : fresh b3 M0 := hb3
 have f5 : fresh b5 M0 := hb5.2.2
 refine regO gA1_ok ?_
 simp only [push_cast, seval, reduceCtorEq, hb5]
 refine useP [_, _] (fun M1 hr1 he1 => refRightS_ok (StR.rd _ _ _ _ he1.symm hv) hr1.marks (by omega) (fun y hy => by have := hsl y hy; omega)) ⟨f5, f3, trivial⟩ ?_
 have hsl' : ∀ y ∈ s, y.slots.length ≤ 2199023255551 := fun y hy => by have := hsl y hy; omega
 cases hrs : rightS s
 case false =>
  have e : doS s c = (s, Ch.zero, 1) := by unfold doS; rw [if_pos hrs]
  rw [e]
  simp only [push_cast, seval, reduceCtorEq, hb5]
  refine useB [_, _] (refOwn_ok hv hn hsl') (StO.rd _ _) hm ⟨f5, f3, trivial⟩ fun w N M1 hg hf hL hw hmN hq => ?_
  simp only [push_cast, seval, reduceCtorEq, hb5]
  exact doneN [_, _] hg hw hmN hf (DoO.rd _ _) ⟨_, rfl, hq⟩
 have e1 : (decide (c.kind < 1)) = true ∨ decide (4 < c.kind) = true → doS s c = (s, Ch.zero, 1) := fun h => by
  simp only [decide_eq_true_eq] at h
  have : chA (findS s c.at_) c = (findS s c.at_, ⟨c.kind, c.at_, W.zero, W.zero, 0, .empty⟩, 1) := by
   unfold chA
   rw [if_neg (by omega), if_neg (by omega), if_neg (by omega), if_neg (by omega)]
  unfold doS
  rw [if_neg (by rw [hrs]; simp), this, if_pos (by simp)]
 by_cases h1 : c.kind < 1
 · rw [e1 (.inl (by simpa using h1))]
   simp only [push_cast, seval, reduceCtorEq, hb5, h1]
   refine useB [_, _] (refOwn_ok hv hn hsl') (StO.rd _ _) hm ⟨f5, f3, trivial⟩ fun w N M1 hg hf hL hw hmN hq => ?_
   simp only [push_cast, seval, reduceCtorEq, hb5]
   exact doneN [_, _] hg hw hmN hf (DoO.rd _ _) ⟨_, rfl, hq⟩
 by_cases h4 : 4 < c.kind
 · rw [e1 (.inr (by simpa using h4))]
   simp only [push_cast, seval, reduceCtorEq, hb5, h1, h4]
   refine useB [_, _] (refOwn_ok hv hn hsl') (StO.rd _ _) hm ⟨f5, f3, trivial⟩ fun w N M1 hg hf hL hw hmN hq => ?_
   simp only [push_cast, seval, reduceCtorEq, hb5]
   exact doneN [_, _] hg hw hmN hf (DoO.rd _ _) ⟨_, rfl, hq⟩
 simp only [push_cast, seval, reduceCtorEq, hb5, h1, h4]
 refine useL [_, _] (refFind_ok hv hn hsl') (AcR.rd _) hm ⟨f5, f3, trivial⟩ fun w M1 hg1 hL1 hq1 => ?_
 obtain ⟨sv, rfl, hsv⟩ := hq1
 have f31 : fresh b3 M1 := hL1.2.1
 have f51 : fresh b5 M1 := hL1.1
 obtain ⟨x, hx⟩ : ∃ x, x = findS s c.at_ := ⟨_, rfl⟩
 have hri := rightS_iff.1 hrs
 have hxm : mayA x = true := by rw [hx]; exact hri.findMay _
 have hxl := (mayA_slots hxm).len
 rw [← hx] at hsv
 obtain ⟨ps, ks, rfl⟩ := hsv.slice
 rw [← hx]
 simp only [push_cast, seval, reduceCtorEq]
 intro b7 hb7
 try simp only [push_cast, seval, reduceCtorEq, hb5, hb7]
 refine regO gA1_ok ?_
 simp only [push_cast, seval, reduceCtorEq, hb5, hb7]
 intro b8 hb8
 have hv1 : StR s (.slice p s.length k) M1 := hv.ext hg1.ext
 have f7 : fresh b7 M1 := hb7.2.2.2.2
 have f8 : fresh b8 M1 := hb8.2.2.2.2.2.2
 by_cases k1 : c.kind = 1
 · have e : chA x c = (⟨x.at_, c.val, x.nonce, x.code, x.slots⟩, ⟨c.kind, c.at_, W.zero, x.bal, 0, .empty⟩, 0) := by unfold chA; rw [if_pos k1]
   have e1 : (c.kind == 1) = true := by rw [k1]; rfl
   simp only [push_cast, seval, reduceCtorEq, hb5, hb7, hb8, e1]
   refine regO gA1_ok ?_
   simp only [push_cast, seval, reduceCtorEq, hb5, hb7, hb8]
   have hx3 : (chA (findS s c.at_) c).1 = ⟨x.at_, c.val, x.nonce, x.code, x.slots⟩ := by rw [← hx, e]
   have hu3 : (chA (findS s c.at_) c).2.1 = ⟨c.kind, c.at_, W.zero, x.bal, 0, .empty⟩ := by rw [← hx, e]
   have hc3 : (chA (findS s c.at_) c).2.2 = 0 := by rw [← hx, e]
   refine useB [_, _, _, _] (refSet_ok (x := ⟨x.at_, c.val, x.nonce, x.code, x.slots⟩) hv1 hsv hn (fun y hy => by have := hsl y hy; omega) (by dsimp only; omega)) (SetO.rd _ _) hg1.marks ⟨f8, f7, f51, f31, trivial⟩ fun w N9 M9 hg9 hf9 hL9 hw9 hm9 hq9 => ?_
   obtain ⟨w9, rfl, hst9⟩ := hq9
   obtain ⟨p9, k9, rfl⟩ : ∃ p k, w9 = .slice p (setS s ⟨x.at_, c.val, x.nonce, x.code, x.slots⟩).1.length k := by
    obtain ⟨L, h1, h2, -⟩ := hst9
    obtain ⟨p, k, h3⟩ := h2.slice
    exact ⟨p, k, by rw [h3, ← h1, List.length_map]⟩
   by_cases hz : (setS s ⟨x.at_, c.val, x.nonce, x.code, x.slots⟩).2 = 0
   · have hz1 : ((setS s ⟨x.at_, c.val, x.nonce, x.code, x.slots⟩).2 != 0) = false := by rw [hz]; rfl
     have hdo : doS s c = ((setS s ⟨x.at_, c.val, x.nonce, x.code, x.slots⟩).1, ⟨c.kind, c.at_, W.zero, x.bal, 0, .empty⟩, 0) := by
      unfold doS
      rw [if_neg (by rw [hrs]; simp), if_neg (by rw [hc3]; simp), hx3, if_neg (by simpa using hz), hu3]
     rw [hdo]
     simp only [push_cast, seval, reduceCtorEq, hb5, hb7, hb8, hz1]
     exact doneN [_, _, _, _] (hg1.trans hg9) hw9 hm9 hf9 (DoO.rd _ _) ⟨_, rfl, hst9⟩
   · have hz1 : ((setS s ⟨x.at_, c.val, x.nonce, x.code, x.slots⟩).2 != 0) = true := by rw [bne_iff_ne]; exact hz
     have hdo : doS s c = (s, Ch.zero, (setS s ⟨x.at_, c.val, x.nonce, x.code, x.slots⟩).2) := by
      unfold doS
      rw [if_neg (by rw [hrs]; simp), if_neg (by rw [hc3]; simp), hx3, if_pos (by simpa using hz)]
     rw [hdo]
     obtain ⟨e9, he9⟩ : ∃ e, e = (setS s ⟨x.at_, c.val, x.nonce, x.code, x.slots⟩).2 := ⟨_, rfl⟩
     rw [← he9]
     rw [← he9] at hz1
     simp only [push_cast, seval, reduceCtorEq, hb5, hb7, hb8, hz1]
     refine WpV.sub (s := ([(0, .slice p s.length k), (5, .pointer (some ⟨b5, 0, none⟩)), (12, .int .i64 e9)], ⟨b5, 0, .cel 33, Ch.zero.cells⟩ :: M9)) ⟨by simp only [push_cast, seval, reduceCtorEq], ?_, ?_⟩ ?_
     · have hL99 := freshN_appR hL9
       exact subH_pick (by exact hb8.2.2.2.1) (by exact hb7.2.1) (by exact hL99.1) (by exact hL99.2.1) (by exact hL99.2.2.2.1) hf9
     · simp [marks_append, marksOf, hm9]
     have hvE := StR.ext hg1.ext hv
     have f59 : fresh b5 M9 := (freshN_appR hL9).2.2.1
     refine regO gA1_ok ?_
     simp only [push_cast, seval, reduceCtorEq]
     refine useB [_] (refOwn_ok ((StR.ext (hg1.trans hg9).ext hv)) hn hsl') (StO.rd _ _) hg9.marks ⟨f59, trivial⟩ fun w N8 M8 hg8 hf8 hL8 hw8 hm8 hq8 => ?_
     simp only [push_cast, seval, reduceCtorEq]
     exact doneN [_] ((hg1.trans hg9).trans hg8) hw8 hm8 hf8 (DoO.rd _ _) ⟨_, rfl, hq8⟩
 have e1 : (c.kind == 1) = false := beq_eq_false_iff_ne.2 k1
 by_cases k2 : c.kind = 2
 · have e : chA x c = (⟨x.at_, x.bal, c.nonce, x.code, x.slots⟩, ⟨c.kind, c.at_, W.zero, W.zero, x.nonce, .empty⟩, 0) := by unfold chA; rw [if_neg k1, if_pos k2]
   have e2 : (c.kind == 2) = true := by rw [k2]; rfl
   simp only [push_cast, seval, reduceCtorEq, hb5, hb7, hb8, e1, e2]
   refine regO gA1_ok ?_
   simp only [push_cast, seval, reduceCtorEq, hb5, hb7, hb8]
   have hx3 : (chA (findS s c.at_) c).1 = ⟨x.at_, x.bal, c.nonce, x.code, x.slots⟩ := by rw [← hx, e]
   have hu3 : (chA (findS s c.at_) c).2.1 = ⟨c.kind, c.at_, W.zero, W.zero, x.nonce, .empty⟩ := by rw [← hx, e]
   have hc3 : (chA (findS s c.at_) c).2.2 = 0 := by rw [← hx, e]
   refine useB [_, _, _, _] (refSet_ok (x := ⟨x.at_, x.bal, c.nonce, x.code, x.slots⟩) hv1 hsv hn (fun y hy => by have := hsl y hy; omega) (by dsimp only; omega)) (SetO.rd _ _) hg1.marks ⟨f8, f7, f51, f31, trivial⟩ fun w N9 M9 hg9 hf9 hL9 hw9 hm9 hq9 => ?_
   obtain ⟨w9, rfl, hst9⟩ := hq9
   obtain ⟨p9, k9, rfl⟩ : ∃ p k, w9 = .slice p (setS s ⟨x.at_, x.bal, c.nonce, x.code, x.slots⟩).1.length k := by
    obtain ⟨L, h1, h2, -⟩ := hst9
    obtain ⟨p, k, h3⟩ := h2.slice
    exact ⟨p, k, by rw [h3, ← h1, List.length_map]⟩
   by_cases hz : (setS s ⟨x.at_, x.bal, c.nonce, x.code, x.slots⟩).2 = 0
   · have hz1 : ((setS s ⟨x.at_, x.bal, c.nonce, x.code, x.slots⟩).2 != 0) = false := by rw [hz]; rfl
     have hdo : doS s c = ((setS s ⟨x.at_, x.bal, c.nonce, x.code, x.slots⟩).1, ⟨c.kind, c.at_, W.zero, W.zero, x.nonce, .empty⟩, 0) := by
      unfold doS
      rw [if_neg (by rw [hrs]; simp), if_neg (by rw [hc3]; simp), hx3, if_neg (by simpa using hz), hu3]
     rw [hdo]
     simp only [push_cast, seval, reduceCtorEq, hb5, hb7, hb8, hz1]
     exact doneN [_, _, _, _] (hg1.trans hg9) hw9 hm9 hf9 (DoO.rd _ _) ⟨_, rfl, hst9⟩
   · have hz1 : ((setS s ⟨x.at_, x.bal, c.nonce, x.code, x.slots⟩).2 != 0) = true := by rw [bne_iff_ne]; exact hz
     have hdo : doS s c = (s, Ch.zero, (setS s ⟨x.at_, x.bal, c.nonce, x.code, x.slots⟩).2) := by
      unfold doS
      rw [if_neg (by rw [hrs]; simp), if_neg (by rw [hc3]; simp), hx3, if_pos (by simpa using hz)]
     rw [hdo]
     obtain ⟨e9, he9⟩ : ∃ e, e = (setS s ⟨x.at_, x.bal, c.nonce, x.code, x.slots⟩).2 := ⟨_, rfl⟩
     rw [← he9]
     rw [← he9] at hz1
     simp only [push_cast, seval, reduceCtorEq, hb5, hb7, hb8, hz1]
     refine WpV.sub (s := ([(0, .slice p s.length k), (5, .pointer (some ⟨b5, 0, none⟩)), (12, .int .i64 e9)], ⟨b5, 0, .cel 33, Ch.zero.cells⟩ :: M9)) ⟨by simp only [push_cast, seval, reduceCtorEq], ?_, ?_⟩ ?_
     · have hL99 := freshN_appR hL9
       exact subH_pick (by exact hb8.2.2.2.1) (by exact hb7.2.1) (by exact hL99.1) (by exact hL99.2.1) (by exact hL99.2.2.2.1) hf9
     · simp [marks_append, marksOf, hm9]
     have hvE := StR.ext hg1.ext hv
     have f59 : fresh b5 M9 := (freshN_appR hL9).2.2.1
     refine regO gA1_ok ?_
     simp only [push_cast, seval, reduceCtorEq]
     refine useB [_] (refOwn_ok ((StR.ext (hg1.trans hg9).ext hv)) hn hsl') (StO.rd _ _) hg9.marks ⟨f59, trivial⟩ fun w N8 M8 hg8 hf8 hL8 hw8 hm8 hq8 => ?_
     simp only [push_cast, seval, reduceCtorEq]
     exact doneN [_] ((hg1.trans hg9).trans hg8) hw8 hm8 hf8 (DoO.rd _ _) ⟨_, rfl, hq8⟩
 have e2 : (c.kind == 2) = false := beq_eq_false_iff_ne.2 k2
 by_cases k3 : c.kind = 3
 · have e : chA x c = (⟨x.at_, x.bal, x.nonce, c.code, x.slots⟩, ⟨c.kind, c.at_, W.zero, W.zero, 0, x.code⟩, 0) := by unfold chA; rw [if_neg k1, if_neg k2, if_pos k3]
   have e3 : (c.kind == 3) = true := by rw [k3]; rfl
   simp only [push_cast, seval, reduceCtorEq, hb5, hb7, hb8, e1, e2, e3]
   refine regO gA1_ok ?_
   simp only [push_cast, seval, reduceCtorEq, hb5, hb7, hb8]
   have hx3 : (chA (findS s c.at_) c).1 = ⟨x.at_, x.bal, x.nonce, c.code, x.slots⟩ := by rw [← hx, e]
   have hu3 : (chA (findS s c.at_) c).2.1 = ⟨c.kind, c.at_, W.zero, W.zero, 0, x.code⟩ := by rw [← hx, e]
   have hc3 : (chA (findS s c.at_) c).2.2 = 0 := by rw [← hx, e]
   refine useB [_, _, _, _] (refSet_ok (x := ⟨x.at_, x.bal, x.nonce, c.code, x.slots⟩) hv1 hsv hn (fun y hy => by have := hsl y hy; omega) (by dsimp only; omega)) (SetO.rd _ _) hg1.marks ⟨f8, f7, f51, f31, trivial⟩ fun w N9 M9 hg9 hf9 hL9 hw9 hm9 hq9 => ?_
   obtain ⟨w9, rfl, hst9⟩ := hq9
   obtain ⟨p9, k9, rfl⟩ : ∃ p k, w9 = .slice p (setS s ⟨x.at_, x.bal, x.nonce, c.code, x.slots⟩).1.length k := by
    obtain ⟨L, h1, h2, -⟩ := hst9
    obtain ⟨p, k, h3⟩ := h2.slice
    exact ⟨p, k, by rw [h3, ← h1, List.length_map]⟩
   by_cases hz : (setS s ⟨x.at_, x.bal, x.nonce, c.code, x.slots⟩).2 = 0
   · have hz1 : ((setS s ⟨x.at_, x.bal, x.nonce, c.code, x.slots⟩).2 != 0) = false := by rw [hz]; rfl
     have hdo : doS s c = ((setS s ⟨x.at_, x.bal, x.nonce, c.code, x.slots⟩).1, ⟨c.kind, c.at_, W.zero, W.zero, 0, x.code⟩, 0) := by
      unfold doS
      rw [if_neg (by rw [hrs]; simp), if_neg (by rw [hc3]; simp), hx3, if_neg (by simpa using hz), hu3]
     rw [hdo]
     simp only [push_cast, seval, reduceCtorEq, hb5, hb7, hb8, hz1]
     exact doneN [_, _, _, _] (hg1.trans hg9) hw9 hm9 hf9 (DoO.rd _ _) ⟨_, rfl, hst9⟩
   · have hz1 : ((setS s ⟨x.at_, x.bal, x.nonce, c.code, x.slots⟩).2 != 0) = true := by rw [bne_iff_ne]; exact hz
     have hdo : doS s c = (s, Ch.zero, (setS s ⟨x.at_, x.bal, x.nonce, c.code, x.slots⟩).2) := by
      unfold doS
      rw [if_neg (by rw [hrs]; simp), if_neg (by rw [hc3]; simp), hx3, if_pos (by simpa using hz)]
     rw [hdo]
     obtain ⟨e9, he9⟩ : ∃ e, e = (setS s ⟨x.at_, x.bal, x.nonce, c.code, x.slots⟩).2 := ⟨_, rfl⟩
     rw [← he9]
     rw [← he9] at hz1
     simp only [push_cast, seval, reduceCtorEq, hb5, hb7, hb8, hz1]
     refine WpV.sub (s := ([(0, .slice p s.length k), (5, .pointer (some ⟨b5, 0, none⟩)), (12, .int .i64 e9)], ⟨b5, 0, .cel 33, Ch.zero.cells⟩ :: M9)) ⟨by simp only [push_cast, seval, reduceCtorEq], ?_, ?_⟩ ?_
     · have hL99 := freshN_appR hL9
       exact subH_pick (by exact hb8.2.2.2.1) (by exact hb7.2.1) (by exact hL99.1) (by exact hL99.2.1) (by exact hL99.2.2.2.1) hf9
     · simp [marks_append, marksOf, hm9]
     have hvE := StR.ext hg1.ext hv
     have f59 : fresh b5 M9 := (freshN_appR hL9).2.2.1
     refine regO gA1_ok ?_
     simp only [push_cast, seval, reduceCtorEq]
     refine useB [_] (refOwn_ok ((StR.ext (hg1.trans hg9).ext hv)) hn hsl') (StO.rd _ _) hg9.marks ⟨f59, trivial⟩ fun w N8 M8 hg8 hf8 hL8 hw8 hm8 hq8 => ?_
     simp only [push_cast, seval, reduceCtorEq]
     exact doneN [_] ((hg1.trans hg9).trans hg8) hw8 hm8 hf8 (DoO.rd _ _) ⟨_, rfl, hq8⟩
 have e3 : (c.kind == 3) = false := beq_eq_false_iff_ne.2 k3
 have k4 : c.kind = 4 := by omega
 have e : chA x c = (⟨x.at_, x.bal, x.nonce, x.code, (mergeR x.slots [⟨c.key, c.val⟩]).1⟩, ⟨c.kind, c.at_, c.key, getW x.slots c.key, 0, .empty⟩, (mergeR x.slots [⟨c.key, c.val⟩]).2) := by unfold chA; rw [if_neg k1, if_neg k2, if_neg k3, if_pos k4]
 simp only [push_cast, seval, reduceCtorEq, hb5, hb7, hb8, e1, e2, e3]
 refine useP [_, _, _, _] (refGet_R (k := c.key) hsv (by omega)) ⟨f8, f7, f51, f31, trivial⟩ ?_
 simp only [push_cast, seval, reduceCtorEq, hb5, hb7, hb8]
 refine regO gA1_ok ?_
 simp only [push_cast, seval, reduceCtorEq, hb5, hb7, hb8]
 refine useL [_, _, _, _] (refPut_R (k := c.key) (w := c.val) hsv (by omega)) (PutQ.rd _) hg1.marks ⟨f8, f7, f51, f31, trivial⟩ fun w M2 hg2 hL2 hq2 => ?_
 obtain ⟨w2, rfl, hl2⟩ := hq2
 obtain ⟨ml, hml⟩ : ∃ m, m = (mergeR x.slots [⟨c.key, c.val⟩]).1 := ⟨_, rfl⟩
 obtain ⟨me, hme⟩ : ∃ m, m = (mergeR x.slots [⟨c.key, c.val⟩]).2 := ⟨_, rfl⟩
 have hmll : ml.length ≤ 1000 := by rw [hml]; exact mergeR_len1 _ _
 rw [← hml, ← hme] at e
 rw [← hml] at hl2
 rw [← hme]
 obtain ⟨p2, k2', rfl⟩ := hl2.slice
 by_cases hz0 : me = 0
 · have hz1 : (me != 0) = false := by rw [hz0]; rfl
   rw [hz0] at e
   simp only [push_cast, seval, reduceCtorEq, hb5, hb7, hb8, hz1]
   refine regO gA1_ok ?_
   simp only [push_cast, seval, reduceCtorEq, hb5, hb7, hb8]
   have hx3 : (chA (findS s c.at_) c).1 = ⟨x.at_, x.bal, x.nonce, x.code, ml⟩ := by rw [← hx, e]
   have hu3 : (chA (findS s c.at_) c).2.1 = ⟨c.kind, c.at_, c.key, getW x.slots c.key, 0, .empty⟩ := by rw [← hx, e]
   have hc3 : (chA (findS s c.at_) c).2.2 = 0 := by rw [← hx, e]
   refine useB [_, _, _, _] (refSet_ok (x := ⟨x.at_, x.bal, x.nonce, x.code, ml⟩) (hv1.ext hg2.ext) hl2 hn (fun y hy => by have := hsl y hy; omega) (by dsimp only; omega)) (SetO.rd _ _) (hg1.trans hg2).marks ⟨hL2.1, hL2.2.1, hL2.2.2.1, hL2.2.2.2.1, trivial⟩ fun w N9 M9 hg9 hf9 hL9 hw9 hm9 hq9 => ?_
   obtain ⟨w9, rfl, hst9⟩ := hq9
   obtain ⟨p9, k9, rfl⟩ : ∃ p k, w9 = .slice p (setS s ⟨x.at_, x.bal, x.nonce, x.code, ml⟩).1.length k := by
    obtain ⟨L, h1, h2, -⟩ := hst9
    obtain ⟨p, k, h3⟩ := h2.slice
    exact ⟨p, k, by rw [h3, ← h1, List.length_map]⟩
   by_cases hz : (setS s ⟨x.at_, x.bal, x.nonce, x.code, ml⟩).2 = 0
   · have hz1 : ((setS s ⟨x.at_, x.bal, x.nonce, x.code, ml⟩).2 != 0) = false := by rw [hz]; rfl
     have hdo : doS s c = ((setS s ⟨x.at_, x.bal, x.nonce, x.code, ml⟩).1, ⟨c.kind, c.at_, c.key, getW x.slots c.key, 0, .empty⟩, 0) := by
      unfold doS
      rw [if_neg (by rw [hrs]; simp), if_neg (by rw [hc3]; simp), hx3, if_neg (by simpa using hz), hu3]
     rw [hdo]
     simp only [push_cast, seval, reduceCtorEq, hb5, hb7, hb8, hz1]
     exact doneN [_, _, _, _] ((hg1.trans hg2).trans hg9) hw9 hm9 hf9 (DoO.rd _ _) ⟨_, rfl, hst9⟩
   · have hz1 : ((setS s ⟨x.at_, x.bal, x.nonce, x.code, ml⟩).2 != 0) = true := by rw [bne_iff_ne]; exact hz
     have hdo : doS s c = (s, Ch.zero, (setS s ⟨x.at_, x.bal, x.nonce, x.code, ml⟩).2) := by
      unfold doS
      rw [if_neg (by rw [hrs]; simp), if_neg (by rw [hc3]; simp), hx3, if_pos (by simpa using hz)]
     rw [hdo]
     obtain ⟨e9, he9⟩ : ∃ e, e = (setS s ⟨x.at_, x.bal, x.nonce, x.code, ml⟩).2 := ⟨_, rfl⟩
     rw [← he9]
     rw [← he9] at hz1
     simp only [push_cast, seval, reduceCtorEq, hb5, hb7, hb8, hz1]
     refine WpV.sub (s := ([(0, .slice p s.length k), (5, .pointer (some ⟨b5, 0, none⟩)), (12, .int .i64 e9)], ⟨b5, 0, .cel 33, Ch.zero.cells⟩ :: M9)) ⟨by simp only [push_cast, seval, reduceCtorEq], ?_, ?_⟩ ?_
     · have hL99 := freshN_appR hL9
       exact subH_pick (by exact hb8.2.2.2.1) (by exact hb7.2.1) (by exact hL99.1) (by exact hL99.2.1) (by exact hL99.2.2.2.1) hf9
     · simp [marks_append, marksOf, hm9]
     have hvE := StR.ext (hg1.trans hg2).ext hv
     have f59 : fresh b5 M9 := (freshN_appR hL9).2.2.1
     refine regO gA1_ok ?_
     simp only [push_cast, seval, reduceCtorEq]
     refine useB [_] (refOwn_ok ((StR.ext ((hg1.trans hg2).trans hg9).ext hv)) hn hsl') (StO.rd _ _) hg9.marks ⟨f59, trivial⟩ fun w N8 M8 hg8 hf8 hL8 hw8 hm8 hq8 => ?_
     simp only [push_cast, seval, reduceCtorEq]
     exact doneN [_] (((hg1.trans hg2).trans hg9).trans hg8) hw8 hm8 hf8 (DoO.rd _ _) ⟨_, rfl, hq8⟩
 · have hz1 : (me != 0) = true := by rw [bne_iff_ne]; exact hz0
   have hdo : doS s c = (s, Ch.zero, me) := by
    unfold doS
    rw [if_neg (by rw [hrs]; simp), ← hx, e, if_pos (by simpa using hz0)]
   rw [hdo]
   simp only [push_cast, seval, reduceCtorEq, hb5, hb7, hb8, hz1]
   refine useB [_, _, _, _] (refOwn_ok (hv1.ext hg2.ext) hn hsl') (StO.rd _ _) hg2.marks ⟨hL2.1, hL2.2.1, hL2.2.2.1, hL2.2.2.2.1, trivial⟩ fun w N8 M8 hg8 hf8 hL8 hw8 hm8 hq8 => ?_
   simp only [push_cast, seval, reduceCtorEq, hb5, hb7, hb8]
   exact doneN [_, _, _, _] ((hg1.trans hg2).trans hg8) hw8 hm8 hf8 (DoO.rd _ _) ⟨_, rfl, hq8⟩
end Go.Proofs.YtpcjmmdgopihcaaGreatDoor
namespace Go.Ev
open Go.RowKit
theorem WpV.perm {P : Program} {r : Option Nat} {n : Nat} {c : Code} {K : Exit → Tm → Hp → Prop} {T : Tm} {H H' : Hp} (hp : H.Perm H') (hm : marksOf H' = marksOf H) (h : WpV P r n c K T H') : WpV P r n c K T H :=
 fun w0 mu a w hr ht hs hd => h w0 mu a w hr ht (hs.perm hp) (by rw [hd, defersOf, defersOf, hm])
theorem WpV.slots {P : Program} {r : Option Nat} {n : Nat} {c : Code} {K : Exit → Tm → Hp → Prop} {T : Tm} {H : Hp} (T' : Tm) (ht : subT T T') (h : WpV P r n c K T' H) : WpV P r n c K T H :=
 fun w0 mu a w hr hT hs hd => h w0 mu a w hr (hT.sub ht) hs hd
theorem freshN_sub {N Y M : Hp} (h : freshN N Y) (hd : ∀ b e, findE M b = some e → ∃ e', findE Y b = some e') : freshN N (roAll M) := freshN_iff.2 fun e he x hx => by
 have h2 := (roAll_mem hx).2
 rw [findE_roAll] at h2
 obtain ⟨e0, h3, -⟩ := Option.map_eq_some_iff.1 h2
 obtain ⟨e1, h4⟩ := hd _ _ h3
 obtain ⟨h5, h6⟩ := findE_mem h4
 rw [← h6]
 exact freshN_iff.1 h e he e1 h5
theorem derE_sub {M Y : Hp} (hd : ∀ b e, findE M b = some e → findE Y b = some e) : derE Y (roAll M) := by
 have : ∀ {R : Hp}, (∀ e ∈ R, e ∈ roAll M) → derE Y R := by
  intro R
  induction R with
  | nil => intro _; trivial
  | cons e r ih =>
    intro h
    obtain ⟨h1, h2⟩ := roAll_mem (h e (by simp))
    refine ⟨⟨h1, ?_⟩, ih fun x hx => h x (by simp [hx])⟩
    rw [findE_roAll] at h2
    obtain ⟨e0, h3, h4⟩ := Option.map_eq_some_iff.1 h2
    unfold cellsAt
    rw [hd _ _ h3, ← h4]
    simp [subL]
 exact this fun _ h => h
theorem cellsAt_app_ro (N M : Hp) : cellsAt (N ++ roAll M) = cellsAt (N ++ M) := by
 funext b o n
 unfold cellsAt
 rw [findE_app, findE_app, findE_roAll]
 cases findE N b with
 | some e => rfl
 | none => cases findE M b <;> rfl
theorem callS {P : Program} {g : FuncId} {args : List Value} {M Y : Hp} {Q : Value → Hp → Prop} {K' : Value → Hp → Prop} (hc : CallsR P g args M Q) (hQ : RdOnly Q) (hd : ∀ b e, findE M b = some e → findE Y b = some e)
  (hk : ∀ v N, allWr N → marksOf N = [] → freshN N Y → Q v (N ++ M) → K' v (N ++ Y)) : CallsV P g args Y K' := by
 refine (hc (roAll M) (roAll_ro M) (cellsAt_roAll M)).use (derE_sub hd) ?_
 rintro v N ⟨h1, h2, h3⟩
 exact ⟨h1, h2, fun hf => hk v N h1 h2 hf (hQ _ _ _ (cellsAt_app_ro N M) (h3 (freshN_sub hf fun b e h => ⟨e, hd b e h⟩)))⟩
theorem find_front {N A B : Hp} (h : ∀ b e, findE A b = some e → findE B b = some e) : ∀ b e, findE (N ++ A) b = some e → findE (N ++ B) b = some e := fun b e he => by
 rw [findE_app] at he ⊢
 cases hN : findE N b with
 | some x => rw [hN] at he; exact he
 | none => rw [hN] at he; exact h b e he
theorem find_behind {L M : Hp} (hL : freshN L M) : ∀ b e, findE M b = some e → findE (L ++ M) b = some e := fun b e he => by rw [findE_freshN hL he]; exact he
end Go.Ev
