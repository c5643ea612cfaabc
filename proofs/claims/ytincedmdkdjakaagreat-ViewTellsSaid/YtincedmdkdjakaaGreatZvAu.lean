/- Texts of this claim, merged by program: Bq. -/
import Derived.Test.YtincedmdkdjakaaGreatZvAt
set_option linter.unusedSimpArgs false
set_option linter.unusedVariables false
namespace Go.Ev
theorem goM_ri : ∀ (l : List Ce) {s : List Ac}, RiS s → RiS (goM s l).1
  | [], s, h => h
  | c :: r, s, h => by
    rw [goM]
    split
    · split
      · rename_i h2
        have h3 := setS_ok.1 h2
        have : (setS s (appC (findS s c.key.at_) c).1).1 = putS s (appC (findS s c.key.at_) c).1 := by rw [setS_val h2]
        rw [this]
        exact goM_ri r (h.put h3.2.1 h3.2.2)
      · exact RiS.nil
    · exact RiS.nil
theorem mergeV_ri {s : List Ac} {x : Vi} : RiS (mergeV s x).1 := by
  unfold mergeV
  split
  · rename_i h
    exact goM_ri _ h.1
  · exact RiS.nil
theorem fit_nil : Vi.Fit ⟨[], [], [], []⟩ := ⟨Nat.zero_le _, fun y hy => (by cases hy), Nat.zero_le _, Nat.zero_le _, Nat.zero_le _⟩
theorem fit_open {s : List Ac} {R W' : List Ky} (h : Vi.Fit ⟨s, R, W', []⟩) : (openV s R W').1.Fit := by
  unfold openV
  split
  · exact h
  · exact fit_nil
theorem fit_put {x : Vi} {c : Ce} (h : x.Fit) (hc : x.cells.length ≤ 1000) : (putV x c).1.Fit := by
  unfold putV
  split
  · split
    · exact ⟨h.b, h.sl, h.r, h.w, by have := insC_len c x.cells; dsimp only; omega⟩
    · exact h
  · exact h
theorem LiR.oneG {α : Type} {c : α → List Value} {s : Nat} {x : α} {b cap : Nat} {k : Kind} {H : Hp} (hl : (c x).length = s) : LiR c s (⟨b, 0, k, c x⟩ :: H) [x] (.slice (some ⟨b, 0, none⟩) 1 cap) := by
  refine ⟨_, cap, rfl, .inr ⟨b, 0, rfl, ?_⟩⟩
  unfold cellsAt
  simp only [findE, if_true, Nat.sub_zero, subL, List.drop_zero, List.length_singleton, Nat.one_mul, Nat.zero_add, List.flatMap_cons, List.flatMap_nil, List.append_nil]
  rw [if_pos (Nat.zero_le _), if_pos (by omega), List.take_of_length_le (by omega)]
theorem subH_lastB {e : Ent} : ∀ {M : Hp}, fresh e.blk M → subH (e :: M) (M ++ [e])
  | [], _ => subH_self _
  | x :: r, h => by
    have h1 : ¬ x.blk = e.blk := h.2.1
    refine ⟨?_, ?_⟩
    · rw [findE, if_neg h1, findE, if_pos rfl]
    · rw [remE, if_neg h1, remE, if_pos rfl]
      exact subH_lastB h.2.2
theorem subH_skipB {a e : Ent} : ∀ {Y L : Hp}, ¬ a.blk = e.blk → fresh a.blk Y → subH (e :: L) Y → subH (e :: a :: L) Y
  | [], _, _, _, _ => trivial
  | y :: Y, L, h1, h2, h3 => by
    obtain ⟨h4, h5⟩ := h3
    have h6 : ¬ y.blk = a.blk := h2.2.1
    by_cases hy : y.blk = e.blk
    · rw [findE, if_pos hy] at h4
      rw [remE, if_pos hy] at h5
      refine ⟨by rw [findE, if_pos hy]; exact h4, ?_⟩
      rw [remE, if_pos hy]
      exact subH_drop h2.2.2 h5
    · rw [findE, if_neg hy] at h4
      rw [remE, if_neg hy] at h5
      refine ⟨by rw [findE, if_neg hy, findE, if_neg h6]; exact h4, ?_⟩
      rw [remE, if_neg hy, remE, if_neg h6]
      exact subH_skipB h1 h2.2.2 h5
theorem findE_lastB {e : Ent} : ∀ {M : Hp}, fresh e.blk M → findE (M ++ [e]) e.blk = some e
  | [], _ => by simp [findE]
  | x :: r, h => by rw [List.cons_append, findE, if_neg h.1]; exact findE_lastB h.2.2
theorem fresh_lastB {b : Nat} {e : Ent} {M : Hp} (h1 : ¬ b = e.blk) (h : fresh b M) : fresh b (M ++ [e]) := fresh_app_iff.2 ⟨h, h1, fun h => h1 h.symm, trivial⟩
theorem Gr.lastB {e : Ent} {M : Hp} (hm : marksOf M = []) (he : e.wr) (hk : marksOf [e] = []) : Gr M (M ++ [e]) := ⟨hm, [e], rfl, ⟨he, trivial⟩, hk⟩
structure Vi.Fitl (x : Vi) : Prop where
  fit : x.Fit
  c : x.cells.length ≤ 1000
end Go.Ev
namespace Go.Proofs.YtincedmdkdjakaaGreat
open Go Go.Ev Go.Proofs
set_option maxRecDepth 100000
set_option maxHeartbeats 4000000
def plVT : Plans := fun i => if i = 7 then [] else if i = 9 then [] else if i = 12 then [(0, 9)] else if i = 19 then [] else Tryz.pl7 i
attribute [push_cast] plVT
attribute [-push_cast] evAppend_nil evAppend_some slAddr
theorem viewTells_ok {M : Hp} {sr l or : List R4} {a b : List R2} {v0 va vb vl vo : Value} {c : Ce} {X : Ac} {sx : Value} {n1 n2 odd : Int} {w : W} (hm : marksOf M = []) (hs : LiR R4.cells 4 M sr v0) (ha : LiR R2.cells 2 M a va) (hb : LiR R2.cells 2 M b vb) (hl : LiR R4.cells 4 M l vl) (ho : LiR R4.cells 4 M or vo)
    (hX : LiR Sl.cells 8 M X.slots sx) (hXn : X.slots.length ≤ 2199023255551) (is : ∀ r ∈ sr, r.In) (ia : ∀ r ∈ a, r.In) (ib : ∀ r ∈ b, r.In) (il : ∀ r ∈ l, r.In) (io : ∀ r ∈ or, r.In) (hn1 : i64In n1) (hn2 : i64In n2) (hod : i64In odd) :
    CallsV Tryz.prog 7 [v0, .agg #[va, vb], vl, c.v, .agg (X.cells sx).toArray, .agg #[.int .i64 n1, .int .i64 n2], w.v, vo, .int .i64 odd] M (Ret0 (.bool true)) := by
  have hfx := viewR_few sr a b l
  have hVx := lawview_R hs ha hb hl is ia ib il
  generalize viewR sr a b l = x at hfx hVx
  have tx := hfx.fit (by decide)
  have hst := stateR_few or
  have hS := fun {M1 : Hp} (he : Ext M M1) => state_ok (ho.ext he) io
  generalize stateR or = S at hst hS
  obtain ⟨qx, ex, rfl⟩ := LiR.slice hX
  have xall := Ac.all1 X _ hX.one
  obtain ⟨K, hK⟩ : ∃ K, K = keyA n1 n2 := ⟨_, rfl⟩
  have od4 := pickN_lt odd (show (0 : Int) < 4 by decide)
  obtain ⟨o, ho4⟩ : ∃ o, o = pickN odd 4 := ⟨_, rfl⟩
  obtain ⟨q0, e0, rfl⟩ := LiR.slice hs
  obtain ⟨q1, e1, rfl⟩ := LiR.slice ha
  obtain ⟨q2, e2, rfl⟩ := LiR.slice hb
  obtain ⟨q5, e5, rfl⟩ := LiR.slice hl
  obtain ⟨q6, e6, rfl⟩ := LiR.slice ho
  refine callsO gB2_ok Tryz.mix plVT Tryz.func7 rfl Tryz.ntmps7 Tryz.results7 rfl (by first | rfl | assumption) (Nat.le_of_ble_eq_true rfl) (by kernel_rfl) ?_
  simp only [push_cast, seval, reduceCtorEq, c.len, c.all1, xall]
  intro b10 f10 b12 hb12 b13 hb13 b14 hb14 b15 hb15
  have f12 : fresh b12 M := hb12.2.2
  have f13 : fresh b13 M := hb13.2.2.2.2
  have f14 : fresh b14 M := hb14.2.2.2.2.2.2
  have f15 : fresh b15 M := hb15.2.2.2.2.2.2.2.2
  simp only [push_cast, seval, reduceCtorEq, hb12, hb13, hb14, hb15]
  refine useL [_, _, _, _, _] hVx (ViR.rd _) hm ⟨f15, f14, f13, f12, f10, trivial⟩ fun u M1 hg1 hL1 hx => ?_
  obtain ⟨p, k, p1, k1, p2, k2, p3, k3, rfl⟩ := hx.e4
  simp only [push_cast, seval, reduceCtorEq, hb12, hb13, hb14, hb15]
  intro b20 hb20
  simp only [push_cast, seval, reduceCtorEq, hb12, hb13, hb14, hb15, hb20]
  intro b21 hb21
  simp only [push_cast, seval, reduceCtorEq, hb12, hb13, hb14, hb15, hb20, hb21, hod, ← ho4]
  have j4 : i64In 4 := by decide
  obtain ⟨g15, g14, g13, g12, g10, -⟩ := id hL1
  have g20 : fresh b20 M1 := hb20.2.2.2.2.2.2.2.2.2.2
  have g21 : fresh b21 M1 := hb21.2.2.2.2.2.2.2.2.2.2.2.2
  have hL7 : freshN [⟨b21, 0, .cel 33, [.slice p x.base.length k, .slice p1 x.reads.length k1, .slice p2 x.writes.length k2, .slice p3 x.cells.length k3]⟩, ⟨b20, 0, .cel 33, [.slice p x.base.length k, .slice p1 x.reads.length k1, .slice p2 x.writes.length k2, .slice p3 x.cells.length k3]⟩, ⟨b15, 0, .cel 39, w.cells⟩, ⟨b14, 0, .cel 25, [.int .i64 n1, .int .i64 n2]⟩, ⟨b13, 0, .cel 53, X.cells (.slice qx X.slots.length ex)⟩, ⟨b12, 0, .cel 74, c.cells⟩, ⟨b10, 0, .cel 24, [.slice q1 a.length e1, .slice q2 b.length e2]⟩] M1 := ⟨g21, g20, g15, g14, g13, g12, g10, trivial⟩
  obtain ⟨L, hLb, hLl, hLs⟩ := id hx.parts.1
  have hLn : x.base.length = L.length := by rw [← hLb, List.length_map]
  have tb := tx.b
  have tr := tx.r
  have tw := tx.w
  have tbs : x.base.length ≤ 100 := by have := hfx.b; omega
  have tws : x.writes.length ≤ 1000 := by have := hfx.w; omega
  have tcl : x.cells.length ≤ 100 := by have := hfx.c; omega
  refine (fun rest => ?main : ((y : Vi) → (yb yr yw yc : Value) → (Mx : Hp) → (T : Tm) → Ext M1 Mx → freshN [⟨b21, 0, .cel 33, [yb, yr, yw, yc]⟩, ⟨b20, 0, .cel 33, [.slice p x.base.length k, .slice p1 x.reads.length k1, .slice p2 x.writes.length k2, .slice p3 x.cells.length k3]⟩, ⟨b15, 0, .cel 39, w.cells⟩, ⟨b14, 0, .cel 25, [.int .i64 n1, .int .i64 n2]⟩, ⟨b13, 0, .cel 53, X.cells (.slice qx X.slots.length ex)⟩, ⟨b12, 0, .cel 74, c.cells⟩, ⟨b10, 0, .cel 24, [.slice q1 a.length e1, .slice q2 b.length e2]⟩] Mx → ViR y (.agg #[yb, yr, yw, yc]) Mx → y.Fitl → subT T [(7, .slice q6 or.length e6), (12, .pointer (some ⟨b12, 0, none⟩)), (13, .pointer (some ⟨b13, 0, none⟩)), (14, .pointer (some ⟨b14, 0, none⟩)), (15, .pointer (some ⟨b15, 0, none⟩)), (19, .bool true), (20, .pointer (some ⟨b20, 0, none⟩)), (21, .pointer (some ⟨b21, 0, none⟩))] → WpV Tryz.prog none 293 (.region 12 ?o false) ?K T (⟨b21, 0, .cel 33, [yb, yr, yw, yc]⟩ :: ⟨b20, 0, .cel 33, [.slice p x.base.length k, .slice p1 x.reads.length k1, .slice p2 x.writes.length k2, .slice p3 x.cells.length k3]⟩ :: ⟨b15, 0, .cel 39, w.cells⟩ :: ⟨b14, 0, .cel 25, [.int .i64 n1, .int .i64 n2]⟩ :: ⟨b13, 0, .cel 53, X.cells (.slice qx X.slots.length ex)⟩ :: ⟨b12, 0, .cel 74, c.cells⟩ :: ⟨b10, 0, .cel 24, [.slice q1 a.length e1, .slice q2 b.length e2]⟩ :: Mx)) → _) ?rest
  case main =>
    rcases (show o = 0 ∨ o = 1 ∨ o = 2 ∨ o = 3 by omega) with rfl | rfl | rfl | rfl
    · simp only [push_cast, seval, reduceCtorEq, hb12, hb13, hb14, hb15, hb20, hb21, hod, ← ho4, j4]
      refine drawO gB2_ok Tryz.mix [(0, 0), (1, 0), (3, 0), (2, 4), (4, 4), (5, 1), (6, 0), (7, 1)] (by kernel_rfl) ?_
      simp only [push_cast, seval, reduceCtorEq, hb12, hb13, hb14, hb15, hb20, hb21, c.len, c.all1]
      have hall : (x.cells.flatMap Ce.cells).all oneC = true := by rw [List.all_flatMap]; exact List.all_eq_true.2 fun y _ => y.all1
      have hlf : (x.cells.flatMap Ce.cells).length = x.cells.length * 35 := flatMap_len Ce.len _
      have hsrc := ((hx.parts.2.2.2).app hL7).src (P := Tryz.prog) (xt := 31) (q := 35) (ag := true) (by simp only [push_cast, seval, reduceCtorEq])
      refine ⟨?_, ?_⟩
      · refine append_g (P := Tryz.prog) (e := 74) (sz := 35) (by_ := 144) (N := []) (cs := []) (n := 0) (m := x.cells.length) (ys := x.cells.flatMap Ce.cells) (.inl ⟨rfl, rfl, rfl, rfl⟩) (by simp only [push_cast, seval, reduceCtorEq]) hsrc hlf hall (by unfold two47; omega) fun v' N' ho hf => ?_
        have ho' : OutG 74 35 (x.cells.flatMap Ce.cells) x.cells.length v' N' := by simpa using ho
        refine ⟨(subH_new _ _ (freshN_iff.1 hf) : subH (N' ++ _) ([_, _, _, _, _, _, _] ++ M1)), fun bb hbb => ⟨subH_cons hbb, ?_⟩⟩
        refine push_gA (P := Tryz.prog) (c := Ce.cells) (x := c) [] (by_ := 144) (q := 35) (ag := true) ho' ⟨(fresh_app_iff.1 hbb).1, trivial⟩ (by simp only [push_cast, seval, reduceCtorEq]) (by simp only [push_cast, seval, reduceCtorEq]) c.len c.all1 (by unfold two47; omega) fun v3 N3 ho4 hf4 => ?_
        have hbb := (fresh_app_iff.1 hbb).2
        simp only [push_cast, seval, reduceCtorEq] at hbb
        have ho4 : OutG 74 35 ((x.cells ++ [c]).flatMap Ce.cells) (x.cells ++ [c]).length v3 N3 := by
          first | exact ho4 | (rw [List.flatMap_append, List.length_append]; first | exact ho4 | simpa using ho4)
        obtain ⟨p4, k4, hv3⟩ := ho4.slice
        subst hv3
        rcases ho4 with ⟨r1, -⟩ | ⟨bu, cu, r3, r4, r5, hN3⟩
        · rw [List.length_append] at r1; simp at r1
        have hl2 : (x.cells ++ [c]).length = x.cells.length + 1 := by rw [List.length_append]; rfl
        obtain ⟨hq3, -⟩ := (show freshN [⟨bu, 0, .vec 74 35 cu, (x.cells ++ [c]).flatMap Ce.cells⟩] _ from hN3 ▸ hf4)
        rw [hN3]
        have hbu := hq3
        simp only [push_cast, seval, reduceCtorEq] at hbu
        simp only [push_cast, seval, reduceCtorEq, hb12, hb13, hb14, hb15, hb20, hb21, hbb, hbu, hl2]
        have fM : fresh bb M1 ∧ fresh bu M1 := ⟨by simp only [hbb], by simp only [hbu]⟩
        have x1 : Ext M1 (⟨bb, 0, .vec 74 35 1, Ce.cells c⟩ :: M1) := Ext.cons hg1.marks rfl fM.1
        have x2 : Ext (⟨bb, 0, .vec 74 35 1, Ce.cells c⟩ :: M1) (⟨bu, 0, .vec 74 35 cu, (x.cells ++ [c]).flatMap Ce.cells⟩ :: ⟨bb, 0, .vec 74 35 1, Ce.cells c⟩ :: M1) := Ext.cons x1.marks rfl ⟨by simp only [hbu, not_false_iff, ne_eq], by simp only [hbu, not_false_iff, ne_eq], fM.2⟩
        have e12 := x1.trans x2
        have hlm : LiR Ce.cells 35 (⟨bu, 0, .vec 74 35 cu, (x.cells ++ [c]).flatMap Ce.cells⟩ :: ⟨bb, 0, .vec 74 35 1, Ce.cells c⟩ :: M1) (x.cells ++ [c]) (.slice p4 (x.cells.length + 1) k4) := hl2 ▸ OutG.liR (N := [_]) (.inr ⟨bu, cu, r3, r4, r5, rfl⟩) rfl rfl _
        refine WpV.perm (H' := ⟨b21, 0, .cel 33, [.slice p x.base.length k, .slice p1 x.reads.length k1, .slice p2 x.writes.length k2, .slice p4 (x.cells.length + 1) k4]⟩ :: ⟨b20, 0, .cel 33, [.slice p x.base.length k, .slice p1 x.reads.length k1, .slice p2 x.writes.length k2, .slice p3 x.cells.length k3]⟩ :: ⟨b15, 0, .cel 39, w.cells⟩ :: ⟨b14, 0, .cel 25, [.int .i64 n1, .int .i64 n2]⟩ :: ⟨b13, 0, .cel 53, X.cells (.slice qx X.slots.length ex)⟩ :: ⟨b12, 0, .cel 74, c.cells⟩ :: ⟨b10, 0, .cel 24, [.slice q1 a.length e1, .slice q2 b.length e2]⟩ :: ⟨bu, 0, .vec 74 35 cu, (x.cells ++ [c]).flatMap Ce.cells⟩ :: ⟨bb, 0, .vec 74 35 1, Ce.cells c⟩ :: M1) (List.perm_append_comm_assoc [_, _] [_, _, _, _, _, _, _] M1) (by simp [marksOf]) ?_
        refine rest ⟨x.base, x.reads, x.writes, x.cells ++ [c]⟩ _ _ _ _ (⟨bu, 0, .vec 74 35 cu, (x.cells ++ [c]).flatMap Ce.cells⟩ :: ⟨bb, 0, .vec 74 35 1, Ce.cells c⟩ :: M1) _ e12 ?_ ?_ ?_ ?_
        · exact ⟨⟨by simp only [hbu, not_false_iff, ne_eq], by simp only [hbu, not_false_iff, ne_eq], by simp only [hbb, not_false_iff, ne_eq], by simp only [hbb, not_false_iff, ne_eq], g21⟩, ⟨by simp only [hbu, not_false_iff, ne_eq], by simp only [hbu, not_false_iff, ne_eq], by simp only [hbb, not_false_iff, ne_eq], by simp only [hbb, not_false_iff, ne_eq], g20⟩, ⟨by simp only [hbu, not_false_iff, ne_eq], by simp only [hbu, not_false_iff, ne_eq], by simp only [hbb, not_false_iff, ne_eq], by simp only [hbb, not_false_iff, ne_eq], g15⟩, ⟨by simp only [hbu, not_false_iff, ne_eq], by simp only [hbu, not_false_iff, ne_eq], by simp only [hbb, not_false_iff, ne_eq], by simp only [hbb, not_false_iff, ne_eq], g14⟩, ⟨by simp only [hbu, not_false_iff, ne_eq], by simp only [hbu, not_false_iff, ne_eq], by simp only [hbb, not_false_iff, ne_eq], by simp only [hbb, not_false_iff, ne_eq], g13⟩, ⟨by simp only [hbu, not_false_iff, ne_eq], by simp only [hbu, not_false_iff, ne_eq], by simp only [hbb, not_false_iff, ne_eq], by simp only [hbb, not_false_iff, ne_eq], g12⟩, ⟨by simp only [hbu, not_false_iff, ne_eq], by simp only [hbu, not_false_iff, ne_eq], by simp only [hbb, not_false_iff, ne_eq], by simp only [hbb, not_false_iff, ne_eq], g10⟩, trivial⟩
        · exact ⟨_, _, _, _, rfl, hx.parts.1.ext e12, LiR.ext e12 hx.parts.2.1, LiR.ext e12 hx.parts.2.2.1, hlm⟩
        · exact ⟨⟨tx.b, tx.sl, tx.r, tx.w, by dsimp only; rw [hl2]; omega⟩, by dsimp only; rw [hl2]; omega⟩
        · simp only [push_cast, seval, reduceCtorEq]
      · intro bb hbb
        have hbb0 := hbb
        simp only [push_cast, seval, reduceCtorEq, hbb]
        refine append_g (P := Tryz.prog) (e := 74) (sz := 35) (by_ := 144) (N := []) (cs := []) (n := 0) (m := x.cells.length) (ys := x.cells.flatMap Ce.cells) (.inl ⟨rfl, rfl, rfl, rfl⟩) (by simp only [push_cast, seval, reduceCtorEq]) ((((hx.parts.2.2.2).app hL7).app (N := [⟨bb, 0, .vec 74 35 1, Ce.cells c⟩]) ⟨hbb0, trivial⟩).src (P := Tryz.prog) (xt := 31) (q := 35) (ag := true) (by simp only [push_cast, seval, reduceCtorEq])) hlf hall (by unfold two47; omega) fun v' N' ho hf => ?_
        have ho' : OutG 74 35 (x.cells.flatMap Ce.cells) x.cells.length v' N' := by simpa using ho
        refine ⟨(subH_new _ _ (freshN_iff.1 hf) : subH (N' ++ _) ([_, _, _, _, _, _, _, _] ++ M1)), ?_⟩
        have hone := (LiR.app (LiR.oneG (c := Ce.cells) (s := 35) (x := c) (b := bb) (k := .vec 74 35 1) (cap := 1) c.len) hf).src (P := Tryz.prog) (xt := 31) (q := 35) (ag := true) (by simp only [push_cast, seval, reduceCtorEq])
        refine append_g (P := Tryz.prog) (by_ := 144) (m := 1) (ys := Ce.cells c) ho' (by simp only [push_cast, seval, reduceCtorEq]) (by first | exact hone | simpa using hone | (simp at hone ⊢; exact hone)) (by rw [c.len]) c.all1 (by unfold two47; omega) fun v3 N3 ho4 hf4 => ?_
        have ho4 : OutG 74 35 ((x.cells ++ [c]).flatMap Ce.cells) (x.cells ++ [c]).length v3 N3 := by
          first | exact ho4 | (rw [List.flatMap_append, List.length_append]; first | exact ho4 | simpa using ho4)
        obtain ⟨p4, k4, hv3⟩ := ho4.slice
        subst hv3
        rcases ho4 with ⟨r1, -⟩ | ⟨bu, cu, r3, r4, r5, hN3⟩
        · rw [List.length_append] at r1; simp at r1
        have hl2 : (x.cells ++ [c]).length = x.cells.length + 1 := by rw [List.length_append]; rfl
        obtain ⟨hq3, -⟩ := (show freshN [⟨bu, 0, .vec 74 35 cu, (x.cells ++ [c]).flatMap Ce.cells⟩] _ from hN3 ▸ hf4)
        rw [hN3]
        have hbu := hq3
        simp only [push_cast, seval, reduceCtorEq] at hbu
        simp only [push_cast, seval, reduceCtorEq, hb12, hb13, hb14, hb15, hb20, hb21, hbb, hbu, hl2]
        have fM : fresh bb M1 ∧ fresh bu M1 := ⟨by simp only [hbb], by simp only [hbu]⟩
        have x1 : Ext M1 (⟨bb, 0, .vec 74 35 1, Ce.cells c⟩ :: M1) := Ext.cons hg1.marks rfl fM.1
        have x2 : Ext (⟨bb, 0, .vec 74 35 1, Ce.cells c⟩ :: M1) (⟨bu, 0, .vec 74 35 cu, (x.cells ++ [c]).flatMap Ce.cells⟩ :: ⟨bb, 0, .vec 74 35 1, Ce.cells c⟩ :: M1) := Ext.cons x1.marks rfl ⟨by simp only [hbu, not_false_iff, ne_eq], by simp only [hbu, not_false_iff, ne_eq], fM.2⟩
        have e12 := x1.trans x2
        have hlm : LiR Ce.cells 35 (⟨bu, 0, .vec 74 35 cu, (x.cells ++ [c]).flatMap Ce.cells⟩ :: ⟨bb, 0, .vec 74 35 1, Ce.cells c⟩ :: M1) (x.cells ++ [c]) (.slice p4 (x.cells.length + 1) k4) := hl2 ▸ OutG.liR (N := [_]) (.inr ⟨bu, cu, r3, r4, r5, rfl⟩) rfl rfl _
        refine WpV.perm (H' := ⟨b21, 0, .cel 33, [.slice p x.base.length k, .slice p1 x.reads.length k1, .slice p2 x.writes.length k2, .slice p4 (x.cells.length + 1) k4]⟩ :: ⟨b20, 0, .cel 33, [.slice p x.base.length k, .slice p1 x.reads.length k1, .slice p2 x.writes.length k2, .slice p3 x.cells.length k3]⟩ :: ⟨b15, 0, .cel 39, w.cells⟩ :: ⟨b14, 0, .cel 25, [.int .i64 n1, .int .i64 n2]⟩ :: ⟨b13, 0, .cel 53, X.cells (.slice qx X.slots.length ex)⟩ :: ⟨b12, 0, .cel 74, c.cells⟩ :: ⟨b10, 0, .cel 24, [.slice q1 a.length e1, .slice q2 b.length e2]⟩ :: ⟨bu, 0, .vec 74 35 cu, (x.cells ++ [c]).flatMap Ce.cells⟩ :: ⟨bb, 0, .vec 74 35 1, Ce.cells c⟩ :: M1) (List.perm_append_comm_assoc [_, _] [_, _, _, _, _, _, _] M1) (by simp [marksOf]) ?_
        refine rest ⟨x.base, x.reads, x.writes, x.cells ++ [c]⟩ _ _ _ _ (⟨bu, 0, .vec 74 35 cu, (x.cells ++ [c]).flatMap Ce.cells⟩ :: ⟨bb, 0, .vec 74 35 1, Ce.cells c⟩ :: M1) _ e12 ?_ ?_ ?_ ?_
        · exact ⟨⟨by simp only [hbu, not_false_iff, ne_eq], by simp only [hbu, not_false_iff, ne_eq], by simp only [hbb, not_false_iff, ne_eq], by simp only [hbb, not_false_iff, ne_eq], g21⟩, ⟨by simp only [hbu, not_false_iff, ne_eq], by simp only [hbu, not_false_iff, ne_eq], by simp only [hbb, not_false_iff, ne_eq], by simp only [hbb, not_false_iff, ne_eq], g20⟩, ⟨by simp only [hbu, not_false_iff, ne_eq], by simp only [hbu, not_false_iff, ne_eq], by simp only [hbb, not_false_iff, ne_eq], by simp only [hbb, not_false_iff, ne_eq], g15⟩, ⟨by simp only [hbu, not_false_iff, ne_eq], by simp only [hbu, not_false_iff, ne_eq], by simp only [hbb, not_false_iff, ne_eq], by simp only [hbb, not_false_iff, ne_eq], g14⟩, ⟨by simp only [hbu, not_false_iff, ne_eq], by simp only [hbu, not_false_iff, ne_eq], by simp only [hbb, not_false_iff, ne_eq], by simp only [hbb, not_false_iff, ne_eq], g13⟩, ⟨by simp only [hbu, not_false_iff, ne_eq], by simp only [hbu, not_false_iff, ne_eq], by simp only [hbb, not_false_iff, ne_eq], by simp only [hbb, not_false_iff, ne_eq], g12⟩, ⟨by simp only [hbu, not_false_iff, ne_eq], by simp only [hbu, not_false_iff, ne_eq], by simp only [hbb, not_false_iff, ne_eq], by simp only [hbb, not_false_iff, ne_eq], g10⟩, trivial⟩
        · exact ⟨_, _, _, _, rfl, hx.parts.1.ext e12, LiR.ext e12 hx.parts.2.1, LiR.ext e12 hx.parts.2.2.1, hlm⟩
        · exact ⟨⟨tx.b, tx.sl, tx.r, tx.w, by dsimp only; rw [hl2]; omega⟩, by dsimp only; rw [hl2]; omega⟩
        · simp only [push_cast, seval, reduceCtorEq]
    · simp only [push_cast, seval, reduceCtorEq, hb12, hb13, hb14, hb15, hb20, hb21, hod, ← ho4, j4]
      refine drawO gB2_ok Tryz.mix [(0, 0), (1, 0), (3, 0), (2, 4), (4, 4), (5, 1), (6, 0), (7, 1)] (by kernel_rfl) ?_
      simp only [push_cast, seval, reduceCtorEq, hb12, hb13, hb14, hb15, hb20, hb21, xall]
      have hall : (L.flatMap acC).all oneC = true := by rw [List.all_flatMap]; exact List.all_eq_true.2 fun y hy => Ac.all1 y.1 y.2 (hLs y hy).one
      have hlf : (L.flatMap acC).length = L.length * 27 := flatMap_len acC_len _
      have hsrc := ((hLl).app hL7).src (P := Tryz.prog) (xt := 27) (q := 27) (ag := true) (by simp only [push_cast, seval, reduceCtorEq])
      refine ⟨?_, ?_⟩
      · refine append_g (P := Tryz.prog) (e := 53) (sz := 27) (by_ := 104) (N := []) (cs := []) (n := 0) (m := L.length) (ys := L.flatMap acC) (.inl ⟨rfl, rfl, rfl, rfl⟩) (by simp only [push_cast, seval, reduceCtorEq]) hsrc hlf hall (by unfold two47; omega) fun v' N' ho hf => ?_
        have ho' : OutG 53 27 (L.flatMap acC) L.length v' N' := by simpa using ho
        refine ⟨(subH_new _ _ (freshN_iff.1 hf) : subH (N' ++ _) ([_, _, _, _, _, _, _] ++ M1)), fun bb hbb => ⟨subH_cons hbb, ?_⟩⟩
        refine push_gA (P := Tryz.prog) (c := acC) (x := (X, Value.slice qx X.slots.length ex)) [] (by_ := 104) (q := 27) (ag := true) ho' ⟨(fresh_app_iff.1 hbb).1, trivial⟩ (by simp only [push_cast, seval, reduceCtorEq]) (by simp only [push_cast, seval, reduceCtorEq]) (acC_len _) xall (by unfold two47; omega) fun v3 N3 ho4 hf4 => ?_
        have hbb := (fresh_app_iff.1 hbb).2
        simp only [push_cast, seval, reduceCtorEq] at hbb
        have ho4 : OutG 53 27 ((L ++ [(X, Value.slice qx X.slots.length ex)]).flatMap acC) (L ++ [(X, Value.slice qx X.slots.length ex)]).length v3 N3 := by
          first | exact ho4 | (rw [List.flatMap_append, List.length_append]; first | exact ho4 | simpa using ho4)
        obtain ⟨p4, k4, hv3⟩ := ho4.slice
        subst hv3
        rcases ho4 with ⟨r1, -⟩ | ⟨bu, cu, r3, r4, r5, hN3⟩
        · rw [List.length_append] at r1; simp at r1
        have hl2 : (L ++ [(X, Value.slice qx X.slots.length ex)]).length = L.length + 1 := by rw [List.length_append]; rfl
        obtain ⟨hq3, -⟩ := (show freshN [⟨bu, 0, .vec 53 27 cu, (L ++ [(X, Value.slice qx X.slots.length ex)]).flatMap acC⟩] _ from hN3 ▸ hf4)
        rw [hN3]
        have hbu := hq3
        simp only [push_cast, seval, reduceCtorEq] at hbu
        simp only [push_cast, seval, reduceCtorEq, hb12, hb13, hb14, hb15, hb20, hb21, hbb, hbu, hl2]
        have fM : fresh bb M1 ∧ fresh bu M1 := ⟨by simp only [hbb], by simp only [hbu]⟩
        have x1 : Ext M1 (⟨bb, 0, .vec 53 27 1, acC (X, Value.slice qx X.slots.length ex)⟩ :: M1) := Ext.cons hg1.marks rfl fM.1
        have x2 : Ext (⟨bb, 0, .vec 53 27 1, acC (X, Value.slice qx X.slots.length ex)⟩ :: M1) (⟨bu, 0, .vec 53 27 cu, (L ++ [(X, Value.slice qx X.slots.length ex)]).flatMap acC⟩ :: ⟨bb, 0, .vec 53 27 1, acC (X, Value.slice qx X.slots.length ex)⟩ :: M1) := Ext.cons x1.marks rfl ⟨by simp only [hbu, not_false_iff, ne_eq], by simp only [hbu, not_false_iff, ne_eq], fM.2⟩
        have e12 := x1.trans x2
        have hlm : LiR acC 27 (⟨bu, 0, .vec 53 27 cu, (L ++ [(X, Value.slice qx X.slots.length ex)]).flatMap acC⟩ :: ⟨bb, 0, .vec 53 27 1, acC (X, Value.slice qx X.slots.length ex)⟩ :: M1) (L ++ [(X, Value.slice qx X.slots.length ex)]) (.slice p4 (L.length + 1) k4) := hl2 ▸ OutG.liR (N := [_]) (.inr ⟨bu, cu, r3, r4, r5, rfl⟩) rfl rfl _
        refine WpV.perm (H' := ⟨b21, 0, .cel 33, [.slice p4 (L.length + 1) k4, .slice p1 x.reads.length k1, .slice p2 x.writes.length k2, .slice p3 x.cells.length k3]⟩ :: ⟨b20, 0, .cel 33, [.slice p x.base.length k, .slice p1 x.reads.length k1, .slice p2 x.writes.length k2, .slice p3 x.cells.length k3]⟩ :: ⟨b15, 0, .cel 39, w.cells⟩ :: ⟨b14, 0, .cel 25, [.int .i64 n1, .int .i64 n2]⟩ :: ⟨b13, 0, .cel 53, X.cells (.slice qx X.slots.length ex)⟩ :: ⟨b12, 0, .cel 74, c.cells⟩ :: ⟨b10, 0, .cel 24, [.slice q1 a.length e1, .slice q2 b.length e2]⟩ :: ⟨bu, 0, .vec 53 27 cu, (L ++ [(X, Value.slice qx X.slots.length ex)]).flatMap acC⟩ :: ⟨bb, 0, .vec 53 27 1, acC (X, Value.slice qx X.slots.length ex)⟩ :: M1) (List.perm_append_comm_assoc [_, _] [_, _, _, _, _, _, _] M1) (by simp [marksOf]) ?_
        refine rest ⟨x.base ++ [X], x.reads, x.writes, x.cells⟩ _ _ _ _ (⟨bu, 0, .vec 53 27 cu, (L ++ [(X, Value.slice qx X.slots.length ex)]).flatMap acC⟩ :: ⟨bb, 0, .vec 53 27 1, acC (X, Value.slice qx X.slots.length ex)⟩ :: M1) _ e12 ?_ ?_ ?_ ?_
        · exact ⟨⟨by simp only [hbu, not_false_iff, ne_eq], by simp only [hbu, not_false_iff, ne_eq], by simp only [hbb, not_false_iff, ne_eq], by simp only [hbb, not_false_iff, ne_eq], g21⟩, ⟨by simp only [hbu, not_false_iff, ne_eq], by simp only [hbu, not_false_iff, ne_eq], by simp only [hbb, not_false_iff, ne_eq], by simp only [hbb, not_false_iff, ne_eq], g20⟩, ⟨by simp only [hbu, not_false_iff, ne_eq], by simp only [hbu, not_false_iff, ne_eq], by simp only [hbb, not_false_iff, ne_eq], by simp only [hbb, not_false_iff, ne_eq], g15⟩, ⟨by simp only [hbu, not_false_iff, ne_eq], by simp only [hbu, not_false_iff, ne_eq], by simp only [hbb, not_false_iff, ne_eq], by simp only [hbb, not_false_iff, ne_eq], g14⟩, ⟨by simp only [hbu, not_false_iff, ne_eq], by simp only [hbu, not_false_iff, ne_eq], by simp only [hbb, not_false_iff, ne_eq], by simp only [hbb, not_false_iff, ne_eq], g13⟩, ⟨by simp only [hbu, not_false_iff, ne_eq], by simp only [hbu, not_false_iff, ne_eq], by simp only [hbb, not_false_iff, ne_eq], by simp only [hbb, not_false_iff, ne_eq], g12⟩, ⟨by simp only [hbu, not_false_iff, ne_eq], by simp only [hbu, not_false_iff, ne_eq], by simp only [hbb, not_false_iff, ne_eq], by simp only [hbb, not_false_iff, ne_eq], g10⟩, trivial⟩
        · exact ⟨_, _, _, _, rfl, ⟨L ++ [(X, Value.slice qx X.slots.length ex)], by rw [List.map_append, hLb]; rfl, hlm, fun z hz => by rcases List.mem_append.1 hz with hz | hz; exact LiR.ext e12 (hLs z hz); rw [List.mem_singleton.1 hz]; exact LiR.ext (hg1.ext.trans e12) hX⟩, LiR.ext e12 hx.parts.2.1, LiR.ext e12 hx.parts.2.2.1, LiR.ext e12 hx.parts.2.2.2⟩
        · exact ⟨⟨by dsimp only; rw [List.length_append]; simp only [List.length_singleton]; omega, fun y hy => by rcases List.mem_append.1 hy with hy | hy; exact tx.sl y hy; rw [List.mem_singleton.1 hy]; exact hXn, tx.r, tx.w, tx.c⟩, by dsimp only; omega⟩
        · simp only [push_cast, seval, reduceCtorEq]
      · intro bb hbb
        have hbb0 := hbb
        simp only [push_cast, seval, reduceCtorEq, hbb]
        refine append_g (P := Tryz.prog) (e := 53) (sz := 27) (by_ := 104) (N := []) (cs := []) (n := 0) (m := L.length) (ys := L.flatMap acC) (.inl ⟨rfl, rfl, rfl, rfl⟩) (by simp only [push_cast, seval, reduceCtorEq]) ((((hLl).app hL7).app (N := [⟨bb, 0, .vec 53 27 1, acC (X, Value.slice qx X.slots.length ex)⟩]) ⟨hbb0, trivial⟩).src (P := Tryz.prog) (xt := 27) (q := 27) (ag := true) (by simp only [push_cast, seval, reduceCtorEq])) hlf hall (by unfold two47; omega) fun v' N' ho hf => ?_
        have ho' : OutG 53 27 (L.flatMap acC) L.length v' N' := by simpa using ho
        refine ⟨(subH_new _ _ (freshN_iff.1 hf) : subH (N' ++ _) ([_, _, _, _, _, _, _, _] ++ M1)), ?_⟩
        have hone := (LiR.app (LiR.oneG (c := acC) (s := 27) (x := (X, Value.slice qx X.slots.length ex)) (b := bb) (k := .vec 53 27 1) (cap := 1) (acC_len _)) hf).src (P := Tryz.prog) (xt := 27) (q := 27) (ag := true) (by simp only [push_cast, seval, reduceCtorEq])
        refine append_g (P := Tryz.prog) (by_ := 104) (m := 1) (ys := acC (X, Value.slice qx X.slots.length ex)) ho' (by simp only [push_cast, seval, reduceCtorEq]) (by first | exact hone | simpa using hone | (simp at hone ⊢; exact hone)) (by rw [(acC_len _)]) xall (by unfold two47; omega) fun v3 N3 ho4 hf4 => ?_
        have ho4 : OutG 53 27 ((L ++ [(X, Value.slice qx X.slots.length ex)]).flatMap acC) (L ++ [(X, Value.slice qx X.slots.length ex)]).length v3 N3 := by
          first | exact ho4 | (rw [List.flatMap_append, List.length_append]; first | exact ho4 | simpa using ho4)
        obtain ⟨p4, k4, hv3⟩ := ho4.slice
        subst hv3
        rcases ho4 with ⟨r1, -⟩ | ⟨bu, cu, r3, r4, r5, hN3⟩
        · rw [List.length_append] at r1; simp at r1
        have hl2 : (L ++ [(X, Value.slice qx X.slots.length ex)]).length = L.length + 1 := by rw [List.length_append]; rfl
        obtain ⟨hq3, -⟩ := (show freshN [⟨bu, 0, .vec 53 27 cu, (L ++ [(X, Value.slice qx X.slots.length ex)]).flatMap acC⟩] _ from hN3 ▸ hf4)
        rw [hN3]
        have hbu := hq3
        simp only [push_cast, seval, reduceCtorEq] at hbu
        simp only [push_cast, seval, reduceCtorEq, hb12, hb13, hb14, hb15, hb20, hb21, hbb, hbu, hl2]
        have fM : fresh bb M1 ∧ fresh bu M1 := ⟨by simp only [hbb], by simp only [hbu]⟩
        have x1 : Ext M1 (⟨bb, 0, .vec 53 27 1, acC (X, Value.slice qx X.slots.length ex)⟩ :: M1) := Ext.cons hg1.marks rfl fM.1
        have x2 : Ext (⟨bb, 0, .vec 53 27 1, acC (X, Value.slice qx X.slots.length ex)⟩ :: M1) (⟨bu, 0, .vec 53 27 cu, (L ++ [(X, Value.slice qx X.slots.length ex)]).flatMap acC⟩ :: ⟨bb, 0, .vec 53 27 1, acC (X, Value.slice qx X.slots.length ex)⟩ :: M1) := Ext.cons x1.marks rfl ⟨by simp only [hbu, not_false_iff, ne_eq], by simp only [hbu, not_false_iff, ne_eq], fM.2⟩
        have e12 := x1.trans x2
        have hlm : LiR acC 27 (⟨bu, 0, .vec 53 27 cu, (L ++ [(X, Value.slice qx X.slots.length ex)]).flatMap acC⟩ :: ⟨bb, 0, .vec 53 27 1, acC (X, Value.slice qx X.slots.length ex)⟩ :: M1) (L ++ [(X, Value.slice qx X.slots.length ex)]) (.slice p4 (L.length + 1) k4) := hl2 ▸ OutG.liR (N := [_]) (.inr ⟨bu, cu, r3, r4, r5, rfl⟩) rfl rfl _
        refine WpV.perm (H' := ⟨b21, 0, .cel 33, [.slice p4 (L.length + 1) k4, .slice p1 x.reads.length k1, .slice p2 x.writes.length k2, .slice p3 x.cells.length k3]⟩ :: ⟨b20, 0, .cel 33, [.slice p x.base.length k, .slice p1 x.reads.length k1, .slice p2 x.writes.length k2, .slice p3 x.cells.length k3]⟩ :: ⟨b15, 0, .cel 39, w.cells⟩ :: ⟨b14, 0, .cel 25, [.int .i64 n1, .int .i64 n2]⟩ :: ⟨b13, 0, .cel 53, X.cells (.slice qx X.slots.length ex)⟩ :: ⟨b12, 0, .cel 74, c.cells⟩ :: ⟨b10, 0, .cel 24, [.slice q1 a.length e1, .slice q2 b.length e2]⟩ :: ⟨bu, 0, .vec 53 27 cu, (L ++ [(X, Value.slice qx X.slots.length ex)]).flatMap acC⟩ :: ⟨bb, 0, .vec 53 27 1, acC (X, Value.slice qx X.slots.length ex)⟩ :: M1) (List.perm_append_comm_assoc [_, _] [_, _, _, _, _, _, _] M1) (by simp [marksOf]) ?_
        refine rest ⟨x.base ++ [X], x.reads, x.writes, x.cells⟩ _ _ _ _ (⟨bu, 0, .vec 53 27 cu, (L ++ [(X, Value.slice qx X.slots.length ex)]).flatMap acC⟩ :: ⟨bb, 0, .vec 53 27 1, acC (X, Value.slice qx X.slots.length ex)⟩ :: M1) _ e12 ?_ ?_ ?_ ?_
        · exact ⟨⟨by simp only [hbu, not_false_iff, ne_eq], by simp only [hbu, not_false_iff, ne_eq], by simp only [hbb, not_false_iff, ne_eq], by simp only [hbb, not_false_iff, ne_eq], g21⟩, ⟨by simp only [hbu, not_false_iff, ne_eq], by simp only [hbu, not_false_iff, ne_eq], by simp only [hbb, not_false_iff, ne_eq], by simp only [hbb, not_false_iff, ne_eq], g20⟩, ⟨by simp only [hbu, not_false_iff, ne_eq], by simp only [hbu, not_false_iff, ne_eq], by simp only [hbb, not_false_iff, ne_eq], by simp only [hbb, not_false_iff, ne_eq], g15⟩, ⟨by simp only [hbu, not_false_iff, ne_eq], by simp only [hbu, not_false_iff, ne_eq], by simp only [hbb, not_false_iff, ne_eq], by simp only [hbb, not_false_iff, ne_eq], g14⟩, ⟨by simp only [hbu, not_false_iff, ne_eq], by simp only [hbu, not_false_iff, ne_eq], by simp only [hbb, not_false_iff, ne_eq], by simp only [hbb, not_false_iff, ne_eq], g13⟩, ⟨by simp only [hbu, not_false_iff, ne_eq], by simp only [hbu, not_false_iff, ne_eq], by simp only [hbb, not_false_iff, ne_eq], by simp only [hbb, not_false_iff, ne_eq], g12⟩, ⟨by simp only [hbu, not_false_iff, ne_eq], by simp only [hbu, not_false_iff, ne_eq], by simp only [hbb, not_false_iff, ne_eq], by simp only [hbb, not_false_iff, ne_eq], g10⟩, trivial⟩
        · exact ⟨_, _, _, _, rfl, ⟨L ++ [(X, Value.slice qx X.slots.length ex)], by rw [List.map_append, hLb]; rfl, hlm, fun z hz => by rcases List.mem_append.1 hz with hz | hz; exact LiR.ext e12 (hLs z hz); rw [List.mem_singleton.1 hz]; exact LiR.ext (hg1.ext.trans e12) hX⟩, LiR.ext e12 hx.parts.2.1, LiR.ext e12 hx.parts.2.2.1, LiR.ext e12 hx.parts.2.2.2⟩
        · exact ⟨⟨by dsimp only; rw [List.length_append]; simp only [List.length_singleton]; omega, fun y hy => by rcases List.mem_append.1 hy with hy | hy; exact tx.sl y hy; rw [List.mem_singleton.1 hy]; exact hXn, tx.r, tx.w, tx.c⟩, by dsimp only; omega⟩
        · simp only [push_cast, seval, reduceCtorEq]
    · simp only [push_cast, seval, reduceCtorEq, hb12, hb13, hb14, hb15, hb20, hb21, hod, ← ho4, j4, c.len, c.all1, c.key.len, c.key.all1]
      intro bb hbb
      simp only [push_cast, seval, reduceCtorEq, hb12, hb13, hb14, hb15, hb20, hb21, hbb, c.key.len, c.key.all1]
      have hall : (x.writes.flatMap Ky.cells).all oneC = true := by rw [List.all_flatMap]; exact List.all_eq_true.2 fun y _ => y.all1
      have hlf : (x.writes.flatMap Ky.cells).length = x.writes.length * 25 := flatMap_len Ky.len _
      have fbM : fresh bb M1 := by simp only [hbb]
      refine append_g (P := Tryz.prog) (e := 45) (sz := 25) (by_ := 56) (N := [⟨bb, 0, .vec 45 25 1, c.key.cells⟩]) (cs := c.key.cells) (n := 1) (m := x.writes.length) (ys := x.writes.flatMap Ky.cells) (.inr ⟨bb, 1, rfl, Nat.le_refl _, by rw [c.key.len], rfl⟩) (by simp only [push_cast, seval, reduceCtorEq]) ((((hx.parts.2.2.1).app hL7).app (N := [⟨bb, 0, .vec 45 25 1, c.key.cells⟩]) ⟨hbb, trivial⟩).src (P := Tryz.prog) (xt := 28) (q := 25) (ag := true) (by simp only [push_cast, seval, reduceCtorEq])) hlf hall (by unfold two47; omega) fun v' N' ho hf => ?_
      have ho4 : OutG 45 25 ((c.key :: x.writes).flatMap Ky.cells) (x.writes.length + 1) v' N' := by rw [List.flatMap_cons, Nat.add_comm]; exact ho
      obtain ⟨p4, k4, hv3⟩ := ho4.slice
      subst hv3
      rcases ho4 with ⟨r1, -⟩ | ⟨bu, cu, r3, r4, r5, hN3⟩
      · exact absurd r1 (by omega)
      obtain ⟨hq3, -⟩ := (show freshN [⟨bu, 0, .vec 45 25 cu, (c.key :: x.writes).flatMap Ky.cells⟩] _ from hN3 ▸ hf)
      rw [hN3]
      have hbu := hq3
      simp only [push_cast, seval, reduceCtorEq] at hbu
      simp only [push_cast, seval, reduceCtorEq, hb12, hb13, hb14, hb15, hb20, hb21, hbu]
      have fM : fresh bu M1 := by simp only [hbu]
      have e12 : Ext M1 (⟨bu, 0, .vec 45 25 cu, (c.key :: x.writes).flatMap Ky.cells⟩ :: M1) := Ext.cons hg1.marks rfl fM
      have hlm : LiR Ky.cells 25 (⟨bu, 0, .vec 45 25 cu, (c.key :: x.writes).flatMap Ky.cells⟩ :: M1) (c.key :: x.writes) (.slice p4 (x.writes.length + 1) k4) := OutG.liR (N := [_]) (.inr ⟨bu, cu, r3, r4, r5, rfl⟩) rfl rfl _
      refine WpV.perm (H' := ⟨b21, 0, .cel 33, [.slice p x.base.length k, .slice p1 x.reads.length k1, .slice p4 (x.writes.length + 1) k4, .slice p3 x.cells.length k3]⟩ :: ⟨b20, 0, .cel 33, [.slice p x.base.length k, .slice p1 x.reads.length k1, .slice p2 x.writes.length k2, .slice p3 x.cells.length k3]⟩ :: ⟨b15, 0, .cel 39, w.cells⟩ :: ⟨b14, 0, .cel 25, [.int .i64 n1, .int .i64 n2]⟩ :: ⟨b13, 0, .cel 53, X.cells (.slice qx X.slots.length ex)⟩ :: ⟨b12, 0, .cel 74, c.cells⟩ :: ⟨b10, 0, .cel 24, [.slice q1 a.length e1, .slice q2 b.length e2]⟩ :: ⟨bu, 0, .vec 45 25 cu, (c.key :: x.writes).flatMap Ky.cells⟩ :: M1) (List.perm_append_comm_assoc [_] [_, _, _, _, _, _, _] M1) (by simp [marksOf]) ?_
      refine rest ⟨x.base, x.reads, c.key :: x.writes, x.cells⟩ _ _ _ _ (⟨bu, 0, .vec 45 25 cu, (c.key :: x.writes).flatMap Ky.cells⟩ :: M1) _ e12 ?_ ?_ ?_ ?_
      · exact ⟨⟨by simp only [hbu, not_false_iff, ne_eq], by simp only [hbu, not_false_iff, ne_eq], g21⟩, ⟨by simp only [hbu, not_false_iff, ne_eq], by simp only [hbu, not_false_iff, ne_eq], g20⟩, ⟨by simp only [hbu, not_false_iff, ne_eq], by simp only [hbu, not_false_iff, ne_eq], g15⟩, ⟨by simp only [hbu, not_false_iff, ne_eq], by simp only [hbu, not_false_iff, ne_eq], g14⟩, ⟨by simp only [hbu, not_false_iff, ne_eq], by simp only [hbu, not_false_iff, ne_eq], g13⟩, ⟨by simp only [hbu, not_false_iff, ne_eq], by simp only [hbu, not_false_iff, ne_eq], g12⟩, ⟨by simp only [hbu, not_false_iff, ne_eq], by simp only [hbu, not_false_iff, ne_eq], g10⟩, trivial⟩
      · exact ⟨_, _, _, _, rfl, hx.parts.1.ext e12, LiR.ext e12 hx.parts.2.1, hlm, LiR.ext e12 hx.parts.2.2.2⟩
      · exact ⟨⟨tx.b, tx.sl, tx.r, by dsimp only; rw [List.length_cons]; omega, tx.c⟩, by dsimp only; omega⟩
      · simp only [push_cast, seval, reduceCtorEq]
    · simp only [push_cast, seval, reduceCtorEq, hb12, hb13, hb14, hb15, hb20, hb21, hod, ← ho4, j4, c.len, c.all1]
      intro bb hbb
      simp only [push_cast, seval, reduceCtorEq, hb12, hb13, hb14, hb15, hb20, hb21, hbb, c.len, c.all1]
      have fM : fresh bb M1 := by simp only [hbb]
      have e12 : Ext M1 (⟨bb, 0, .vec 74 35 1, c.cells⟩ :: M1) := Ext.cons hg1.marks rfl fM
      refine WpV.perm (H' := ⟨b21, 0, .cel 33, [.slice p x.base.length k, .slice p1 x.reads.length k1, .slice p2 x.writes.length k2, .slice (some ⟨bb, 0, none⟩) 1 1]⟩ :: ⟨b20, 0, .cel 33, [.slice p x.base.length k, .slice p1 x.reads.length k1, .slice p2 x.writes.length k2, .slice p3 x.cells.length k3]⟩ :: ⟨b15, 0, .cel 39, w.cells⟩ :: ⟨b14, 0, .cel 25, [.int .i64 n1, .int .i64 n2]⟩ :: ⟨b13, 0, .cel 53, X.cells (.slice qx X.slots.length ex)⟩ :: ⟨b12, 0, .cel 74, c.cells⟩ :: ⟨b10, 0, .cel 24, [.slice q1 a.length e1, .slice q2 b.length e2]⟩ :: ⟨bb, 0, .vec 74 35 1, c.cells⟩ :: M1) (List.perm_append_comm_assoc [_] [_, _, _, _, _, _, _] M1) (by simp [marksOf]) ?_
      refine rest ⟨x.base, x.reads, x.writes, [c]⟩ _ _ _ _ (⟨bb, 0, .vec 74 35 1, c.cells⟩ :: M1) _ e12 ?_ ?_ ?_ ?_
      · exact ⟨⟨by simp only [hbb, not_false_iff, ne_eq], by simp only [hbb, not_false_iff, ne_eq], g21⟩, ⟨by simp only [hbb, not_false_iff, ne_eq], by simp only [hbb, not_false_iff, ne_eq], g20⟩, ⟨by simp only [hbb, not_false_iff, ne_eq], by simp only [hbb, not_false_iff, ne_eq], g15⟩, ⟨by simp only [hbb, not_false_iff, ne_eq], by simp only [hbb, not_false_iff, ne_eq], g14⟩, ⟨by simp only [hbb, not_false_iff, ne_eq], by simp only [hbb, not_false_iff, ne_eq], g13⟩, ⟨by simp only [hbb, not_false_iff, ne_eq], by simp only [hbb, not_false_iff, ne_eq], g12⟩, ⟨by simp only [hbb, not_false_iff, ne_eq], by simp only [hbb, not_false_iff, ne_eq], g10⟩, trivial⟩
      · exact ⟨_, _, _, _, rfl, hx.parts.1.ext e12, LiR.ext e12 hx.parts.2.1, LiR.ext e12 hx.parts.2.2.1, LiR.oneG c.len⟩
      · exact ⟨⟨tx.b, tx.sl, tx.r, tx.w, by dsimp only; simp⟩, by dsimp only; simp⟩
      · simp only [push_cast, seval, reduceCtorEq]
  case rest =>
  intro y yb yr yw yc Mx T he hLx hy hyf hT
  obtain ⟨p4, k4, p5, k5, p6, k6, p7, k7, hve⟩ := hy.e4
  injection hve with hve
  have hve := congrArg Array.toList hve
  simp only [List.cons.injEq, and_true] at hve
  obtain ⟨rfl, rfl, rfl, rfl⟩ := hve
  obtain ⟨x21, x20, x15, x14, x13, x12, x10, -⟩ := id hLx
  refine WpV.slots _ hT ?_
  refine regO gB2_ok ?_
  simp only [push_cast, seval, reduceCtorEq, hb12, hb13, hb14, hb15, hb20, hb21, hn1, hn2, ← hK]
  intro b22 hb22
  try simp only [push_cast, seval, reduceCtorEq, hb12, hb13, hb14, hb15, hb20, hb21, hb22, K.len, K.all1]
  have x22 : fresh b22 Mx := hb22.2.2.2.2.2.2.2.2.2.2.2.2.2.2
  refine useL [_, _, _, _, _, _, _, _] (hS (hg1.ext.trans he)) (StR.rd _) he.marks ⟨x22, x21, x20, x15, x14, x13, x12, x10, trivial⟩ fun u M2 hg2 hL2 hs2 => ?_
  obtain ⟨p8, k8, rfl⟩ := hs2.slice
  simp only [push_cast, seval, reduceCtorEq, hb12, hb13, hb14, hb15, hb20, hb21, hb22]
  intro b97 hb97
  obtain ⟨x22, x21, x20, x15, x14, x13, x12, x10, -⟩ := id hL2
  try simp only [push_cast, seval, reduceCtorEq, hb12, hb13, hb14, hb15, hb20, hb21, hb22, hb97]
  have hR97 : fresh b97 M2 := by simp only [hb97]
  obtain ⟨rc, hrc⟩ : ∃ rc : List Value, rc = [.slice p x.base.length k, .slice p1 x.reads.length k1, .slice p2 x.writes.length k2, .slice p3 x.cells.length k3, .slice p4 y.base.length k4, .slice p5 y.reads.length k5, .slice p6 y.writes.length k6, .slice p7 y.cells.length k7] := ⟨_, rfl⟩
  have hm2 := hg2.marks
  have hEa : Ext M2 (⟨b12, 0, .cel 74, c.cells⟩ :: M2) := Ext.cons hm2 rfl x12
  have hEb : Ext (⟨b12, 0, .cel 74, c.cells⟩ :: M2) (⟨b13, 0, .cel 53, X.cells (.slice qx X.slots.length ex)⟩ :: ⟨b12, 0, .cel 74, c.cells⟩ :: M2) := Ext.cons hEa.marks rfl ⟨hb13.1, hb13.2.1, x13⟩
  have hEc : Ext (⟨b13, 0, .cel 53, X.cells (.slice qx X.slots.length ex)⟩ :: ⟨b12, 0, .cel 74, c.cells⟩ :: M2) (⟨b15, 0, .cel 39, w.cells⟩ :: ⟨b13, 0, .cel 53, X.cells (.slice qx X.slots.length ex)⟩ :: ⟨b12, 0, .cel 74, c.cells⟩ :: M2) := Ext.cons hEb.marks rfl ⟨by simp only [hb15, not_false_iff, ne_eq], by simp only [hb15, not_false_iff, ne_eq], by simp only [hb15, not_false_iff, ne_eq], by simp only [hb15, not_false_iff, ne_eq], x15⟩
  have hEd : Ext (⟨b15, 0, .cel 39, w.cells⟩ :: ⟨b13, 0, .cel 53, X.cells (.slice qx X.slots.length ex)⟩ :: ⟨b12, 0, .cel 74, c.cells⟩ :: M2) (⟨b22, 0, .cel 45, K.cells⟩ :: ⟨b15, 0, .cel 39, w.cells⟩ :: ⟨b13, 0, .cel 53, X.cells (.slice qx X.slots.length ex)⟩ :: ⟨b12, 0, .cel 74, c.cells⟩ :: M2) := Ext.cons hEc.marks rfl ⟨by simp only [hb22, not_false_iff, ne_eq], by simp only [hb22, not_false_iff, ne_eq], by simp only [hb22, not_false_iff, ne_eq], by simp only [hb22, not_false_iff, ne_eq], by simp only [hb22, not_false_iff, ne_eq], by simp only [hb22, not_false_iff, ne_eq], x22⟩
  have hEe : Ext (⟨b22, 0, .cel 45, K.cells⟩ :: ⟨b15, 0, .cel 39, w.cells⟩ :: ⟨b13, 0, .cel 53, X.cells (.slice qx X.slots.length ex)⟩ :: ⟨b12, 0, .cel 74, c.cells⟩ :: M2) (⟨b97, 0, .vec 33 4 2, rc⟩ :: ⟨b22, 0, .cel 45, K.cells⟩ :: ⟨b15, 0, .cel 39, w.cells⟩ :: ⟨b13, 0, .cel 53, X.cells (.slice qx X.slots.length ex)⟩ :: ⟨b12, 0, .cel 74, c.cells⟩ :: M2) := Ext.cons hEd.marks rfl ⟨by simp only [hb97, not_false_iff, ne_eq], by simp only [hb97, not_false_iff, ne_eq], by simp only [hb97, not_false_iff, ne_eq], by simp only [hb97, not_false_iff, ne_eq], by simp only [hb97, not_false_iff, ne_eq], by simp only [hb97, not_false_iff, ne_eq], by simp only [hb97, not_false_iff, ne_eq], by simp only [hb97, not_false_iff, ne_eq], hR97⟩
  have hE2 := (((hEa.trans hEb).trans hEc).trans hEd).trans hEe
  obtain ⟨Mb, hMb⟩ : ∃ Mb : Hp, Mb = ⟨b97, 0, .vec 33 4 2, rc⟩ :: ⟨b22, 0, .cel 45, K.cells⟩ :: ⟨b15, 0, .cel 39, w.cells⟩ :: ⟨b13, 0, .cel 53, X.cells (.slice qx X.slots.length ex)⟩ :: ⟨b12, 0, .cel 74, c.cells⟩ :: M2 := ⟨_, rfl⟩
  rw [← hMb] at hE2
  have mMb := hE2.marks
  have r97 : findE Mb b97 = some ⟨b97, 0, .vec 33 4 2, rc⟩ := by rw [hMb]; simp [findE]
  have r22 : findE Mb b22 = some ⟨b22, 0, .cel 45, K.cells⟩ := by rw [hMb]; simp [findE, hb97]
  have r15 : findE Mb b15 = some ⟨b15, 0, .cel 39, w.cells⟩ := by rw [hMb]; simp [findE, hb97, hb22]
  have r13 : findE Mb b13 = some ⟨b13, 0, .cel 53, X.cells (.slice qx X.slots.length ex)⟩ := by rw [hMb]; simp [findE, hb97, hb22, hb15]
  have r12 : findE Mb b12 = some ⟨b12, 0, .cel 74, c.cells⟩ := by rw [hMb]; simp [findE, hb97, hb22, hb15, hb13]
  have hxb : ViR x (.agg #[.slice p x.base.length k, .slice p1 x.reads.length k1, .slice p2 x.writes.length k2, .slice p3 x.cells.length k3]) Mb := hx.ext ((he.trans hg2.ext).trans hE2)
  have hyb : ViR y (.agg #[.slice p4 y.base.length k4, .slice p5 y.reads.length k5, .slice p6 y.writes.length k6, .slice p7 y.cells.length k7]) Mb := hy.ext (hg2.ext.trans hE2)
  have hsb : StR S (.slice p8 S.length k8) Mb := hs2.ext hE2
  have hXb : LiR Sl.cells 8 Mb X.slots (.slice qx X.slots.length ex) := LiR.ext (((hg1.ext.trans he).trans hg2.ext).trans hE2) hX
  have hxf : x.Fitl := ⟨tx, by omega⟩
  have hzz : ∀ i, i < 2 → ∃ (z : Vi) (a0 a1 a2 a3 : Option Addr) (c0 c1 c2 c3 : Nat), z.Fitl ∧ ViR z (.agg #[.slice a0 z.base.length c0, .slice a1 z.reads.length c1, .slice a2 z.writes.length c2, .slice a3 z.cells.length c3]) Mb ∧ List.take 4 (List.drop (i * 4) rc) = [.slice a0 z.base.length c0, .slice a1 z.reads.length c1, .slice a2 z.writes.length c2, .slice a3 z.cells.length c3] := fun i hi => by
    rcases (show i = 0 ∨ i = 1 by omega) with rfl | rfl
    · exact ⟨x, p, p1, p2, p3, k, k1, k2, k3, hxf, hxb, by rw [hrc]; rfl⟩
    · exact ⟨y, p4, p5, p6, p7, k4, k5, k6, k7, hyf, hyb, by rw [hrc]; rfl⟩
  have ck25 : List.take 25 c.cells = c.key.cells := by unfold Ce.cells; exact List.take_left' c.key.len
  have hrl : rc.length = 8 := by rw [hrc]; rfl
  refine loopO gB2_ok (pl := plVT) Tryz.mix (X := Nat × Hp)
    (fun q => ([(12, .pointer (some ⟨b12, 0, none⟩)), (13, .pointer (some ⟨b13, 0, none⟩)), (15, .pointer (some ⟨b15, 0, none⟩)), (19, .bool true), (22, .pointer (some ⟨b22, 0, none⟩)), (23, .slice p8 S.length k8), (97, .slice (some ⟨b97, 0, none⟩) 2 2), (98, .int .i64 2), (99, .int .i64 q.1)], q.2))
    (fun q => q.1 ≤ 2 ∧ Gr Mb q.2) (fun q => 2 - q.1) (0, Mb) ?_ ?_ (by kernel_rfl) ?_
  · exact ⟨Nat.zero_le _, Gr.refl mMb⟩
  · rw [hMb, hrc]
    simp only [push_cast, seval, reduceCtorEq, hb12, hb13, hb14, hb15, hb20, hb21, hb22, hb97]
    exact subH_drop x21 (subH_drop x20 (subH_drop x14 (subH_drop x10 (subH_self _))))
  · rintro ⟨i, Mi⟩ ⟨hi, hgi⟩
    dsimp only at hi hgi ⊢
    have hgm := hgi.marks
    have f97 := hgi.find r97
    have f22 := hgi.find r22
    have f15 := hgi.find r15
    have f13 := hgi.find r13
    have f12 := hgi.find r12
    by_cases hc : i < 2
    · have i1 : (i : Int) < 2 := by omega
      obtain ⟨z, a0, a1, a2, a3, c0, c1, c2, c3, hzf, hz, hzr⟩ := hzz i hc
      have i4 : i * 4 ≤ 4 := by omega
      have zp := (hz.ext hgi.ext).parts
      have zf := hzf.fit
      have zfn : Vi.Fit ⟨z.base, z.reads, z.writes, []⟩ := ⟨zf.b, zf.sl, zf.r, zf.w, Nat.zero_le _⟩
      have hOf := fit_open zfn
      obtain ⟨O, hO⟩ : ∃ O, O = openV z.base z.reads z.writes := ⟨_, rfl⟩
      have cO1 := vopen_ok zp.1 ⟨_, _, rfl, zp.2.1, zp.2.2.1⟩ zfn
      rw [← hO] at hOf cO1
      simp only [push_cast, seval, reduceCtorEq, hc, i1, i4, f97, hzr, hrl]
      intro b25 hb25
      refine useL [_] cO1 (VeR.rd _) hgm ⟨hb25, trivial⟩ fun u M3 hg3 hL3 hu => ?_
      obtain ⟨u, rfl, hu⟩ := hu
      obtain ⟨s0, t0, s1, t1, s2, t2, s3, t3, rfl⟩ := hu.e4
      obtain ⟨k25, -⟩ := id hL3
      simp only [push_cast, seval, reduceCtorEq]
      intro b26 hb26
      have k26 : fresh b26 M3 := hb26.2.2
      have zp := (hz.ext (hgi.trans hg3).ext).parts
      have cO2 := r11open_ok zp.1 ⟨_, _, rfl, zp.2.1, zp.2.2.1⟩ zfn
      rw [← hO] at cO2
      try simp only [push_cast, seval, reduceCtorEq, hb26]
      refine useL [_, _] cO2 (VeR.rd _) hg3.marks ⟨k26, k25, trivial⟩ fun u M4 hg4 hL4 hu' => ?_
      obtain ⟨u, rfl, hu'⟩ := hu'
      obtain ⟨s0', t0', s1', t1', s2', t2', s3', t3', rfl⟩ := hu'.e4
      have hu := hu.ext hg4.ext
      obtain ⟨k26, k25, -⟩ := id hL4
      simp only [push_cast, seval, reduceCtorEq, hb26]
      intro b28 hb28
      have k28 : fresh b28 M4 := hb28.2.2.2.2
      have g4 := (hgi.trans hg3).trans hg4
      have hz4 := hz.ext g4.ext
      try simp only [push_cast, seval, reduceCtorEq, hb26, hb28]
      refine drawO gB2_ok Tryz.mix (Tryz.pl7 19) (by kernel_rfl) ?_
      simp only [push_cast, seval, reduceCtorEq, hb26, hb28]
      refine takeR (_ :: _ :: _ :: []) (vright_R hz4 zf) ⟨k28, k26, k25, trivial⟩ ?_
      simp only [push_cast, seval, reduceCtorEq, hb26, hb28]
      refine takeR (_ :: _ :: _ :: []) (r11right_R hz4 zf) ⟨k28, k26, k25, trivial⟩ ?_
      simp only [push_cast, seval, reduceCtorEq, hb26, hb28, bne_self_eq_false]
      refine takeR (_ :: _ :: _ :: []) (by have := r11same_R hu hu' hOf hOf; rw [decide_eq_true rfl] at this; exact this) ⟨k28, k26, k25, trivial⟩ ?_
      have f12 := g4.find r12
      have f22 := g4.find r22
      have d1 := (fresh_findS k25 f12).2
      have d2 := (fresh_findS k26 f12).2
      have d3 := (fresh_findS k28 f12).2
      have d4 := (fresh_findS k25 f22).2
      have d5 := (fresh_findS k26 f22).2
      have d6 := (fresh_findS k28 f22).2
      simp only [push_cast, seval, reduceCtorEq, hb26, hb28, bne_self_eq_false, f12, f22, d1, d2, d3, d4, d5, d6, ck25, c.len, c.all1, K.len, K.all1]
      intro b138 hb138
      have k138 : fresh b138 M4 := by simp only [hb138]
      obtain ⟨rk, hrk⟩ : ∃ rk : List Value, rk = c.key.cells ++ K.cells := ⟨_, rfl⟩
      have hkl : rk.length = 50 := by rw [hrk, List.length_append, c.key.len, K.len]
      have hkk : ∀ j, j < 2 → ∃ kk : Ky, List.take 25 (List.drop (j * 25) rk) = kk.cells := fun j hj => by
        rcases (show j = 0 ∨ j = 1 by omega) with rfl | rfl
        · exact ⟨c.key, by rw [hrk]; exact List.take_left' c.key.len⟩
        · exact ⟨K, by rw [hrk, show 1 * 25 = 25 from rfl, List.drop_left' c.key.len]; exact List.take_of_length_le (Nat.le_of_eq K.len)⟩
      obtain ⟨Mc, hMc⟩ : ∃ Mc : Hp, Mc = M4 ++ [⟨b138, 0, .vec 45 25 2, rk⟩] := ⟨_, rfl⟩
      have hgc : Gr M4 Mc := hMc ▸ Gr.lastB hg4.marks trivial rfl
      have r138 : findE Mc b138 = some ⟨b138, 0, .vec 45 25 2, rk⟩ := hMc ▸ findE_lastB k138
      have fc25 : fresh b25 Mc := hMc ▸ fresh_lastB (by simp only [hb138, not_false_iff]) k25
      have fc26 : fresh b26 Mc := hMc ▸ fresh_lastB (by simp only [hb138, not_false_iff]) k26
      have fc28 : fresh b28 Mc := hMc ▸ fresh_lastB (by simp only [hb138, not_false_iff]) k28
      refine loopO gB2_ok (pl := plVT) Tryz.mix (X := Nat × ((Value × Value × Value × Value) × (Value × Value × Value × Value)) × Hp)
        (fun q => ([(12, .pointer (some ⟨b12, 0, none⟩)), (13, .pointer (some ⟨b13, 0, none⟩)), (15, .pointer (some ⟨b15, 0, none⟩)), (19, .bool true), (22, .pointer (some ⟨b22, 0, none⟩)), (23, .slice p8 S.length k8), (25, .pointer (some ⟨b25, 0, none⟩)), (26, .pointer (some ⟨b26, 0, none⟩)), (28, .pointer (some ⟨b28, 0, none⟩)), (97, .slice (some ⟨b97, 0, none⟩) 2 2), (98, .int .i64 2), (99, .int .i64 i), (138, .slice (some ⟨b138, 0, none⟩) 2 2), (139, .int .i64 2), (140, .int .i64 q.1)], ⟨b28, 0, .cel 33, [q.2.1.2.1, q.2.1.2.2.1, q.2.1.2.2.2.1, q.2.1.2.2.2.2]⟩ :: ⟨b26, 0, .cel 33, [q.2.1.1.1, q.2.1.1.2.1, q.2.1.1.2.2.1, q.2.1.1.2.2.2]⟩ :: ⟨b25, 0, .cel 33, [.slice a0 z.base.length c0, .slice a1 z.reads.length c1, .slice a2 z.writes.length c2, .slice a3 z.cells.length c3]⟩ :: q.2.2))
        (fun q => q.1 ≤ 2 ∧ Gr Mc q.2.2 ∧ fresh b28 q.2.2 ∧ fresh b26 q.2.2 ∧ fresh b25 q.2.2) (fun q => 2 - q.1) (0, ((.slice s0 O.1.base.length t0, .slice s1 O.1.reads.length t1, .slice s2 O.1.writes.length t2, .slice s3 O.1.cells.length t3), (.slice s0' O.1.base.length t0', .slice s1' O.1.reads.length t1', .slice s2' O.1.writes.length t2', .slice s3' O.1.cells.length t3')), Mc) ?_ ?_ (by kernel_rfl) ?_
      · exact ⟨Nat.zero_le _, Gr.refl hgc.marks, fc28, fc26, fc25⟩
      · rw [hMc, hrk]
        have kt25 : ∀ q : List Value, List.take 25 (c.key.cells ++ q) = c.key.cells := fun q => List.take_left' c.key.len
        have kd50 : ∀ y0 y1 y2 y3 y4 y5 y6 y7 y8 y9 y10 y11 y12 y13 y14 y15 y16 y17 y18 y19 y20 y21 y22 y23 y24 : Value, List.drop 50 (c.key.cells ++ [y0, y1, y2, y3, y4, y5, y6, y7, y8, y9, y10, y11, y12, y13, y14, y15, y16, y17, y18, y19, y20, y21, y22, y23, y24]) = [] := fun y0 y1 y2 y3 y4 y5 y6 y7 y8 y9 y10 y11 y12 y13 y14 y15 y16 y17 y18 y19 y20 y21 y22 y23 y24 => List.drop_of_length_le (by rw [List.length_append, c.key.len]; exact Nat.le_refl _)
        simp only [push_cast, seval, reduceCtorEq, hb26, hb28, hb138, kt25, kd50]
        exact ⟨subH_lastB (e := ⟨b138, 0, .vec 45 25 2, c.key.cells ++ K.cells⟩) k138, by simp [marks_append, marksOf]⟩
      · rintro ⟨j, ⟨⟨u0, u1, u2, u3⟩, ⟨w0, w1, w2, w3⟩⟩, Mj⟩ ⟨hj, hgj, f28, f26, f25⟩
        dsimp only at hj hgj f28 f26 f25 ⊢
        have hgjm := hgj.marks
        have g5 := (g4.trans hgc).trans hgj
        have hz5 := hz.ext g5.ext
        have f12 := g5.find r12
        have f13 := g5.find r13
        have f15 := g5.find r15
        have f138 := hgj.find r138
        by_cases hcj : j < 2
        · have j1 : (j : Int) < 2 := by omega
          have j25 : j * 25 ≤ 25 := by omega
          obtain ⟨kk, hkr⟩ := hkk j hcj
          have h138a := (fresh_findS f28 f138).2
          have h138b := (fresh_findS f26 f138).2
          have h138c := (fresh_findS f25 f138).2
          have f15a := (fresh_findS f28 f15).2
          have f15b := (fresh_findS f26 f15).2
          have f15c := (fresh_findS f25 f15).2
          have f13a := (fresh_findS f28 f13).2
          have f13b := (fresh_findS f26 f13).2
          have f13c := (fresh_findS f25 f13).2
          have hPf := fit_put (c := Ce.sv ⟨kk.at_, true, kk.key⟩ w) zf hzf.c
          have hAs : (accV z kk.at_).1.slots = [] := accV_slots _ _
          obtain ⟨A, hA⟩ : ∃ A, accV z kk.at_ = A := ⟨_, rfl⟩
          obtain ⟨R, hR⟩ : ∃ R, slotV z kk.at_ kk.key = R := ⟨_, rfl⟩
          obtain ⟨P, hP⟩ : ∃ P, putV z (Ce.sv ⟨kk.at_, true, kk.key⟩ w) = P := ⟨_, rfl⟩
          have cc1 := vaccount_R (a := kk.at_) hz5 zf
          have cc2 := r11account_R (a := kk.at_) hz5 zf
          have cc3 := vslot_R (a := kk.at_) (q := kk.key) hz5 zf
          have cc4 := r11slot_R (a := kk.at_) (q := kk.key) hz5 zf
          have cc5 := vsetslot_R (a := kk.at_) (q := kk.key) (w := w) hz5 zf
          rw [hA] at cc1 cc2 hAs
          rw [hR] at cc3 cc4
          rw [hP] at cc5 hPf
          simp only [push_cast, seval, reduceCtorEq, hb26, hb28, hcj, j1, j25, f138, h138a, h138b, h138c, hkr, hkl, kk.len, kk.all1]
          intro b31 hb31
          have l31 : fresh b31 Mj := by simp only [hb31]
          simp only [push_cast, seval, reduceCtorEq, hb26, hb28, hb31]
          refine useP [_, _, _, _] cc1 ⟨l31, f28, f26, f25, trivial⟩ ?_
          simp only [push_cast, seval, reduceCtorEq, hb26, hb28, hb31]
          intro b32 hb32
          have l32 : fresh b32 Mj := by simp only [hb32]
          simp only [push_cast, seval, reduceCtorEq, hb26, hb28, hb31, hb32]
          refine useP [_, _, _, _, _] cc2 ⟨l32, l31, f28, f26, f25, trivial⟩ ?_
          simp only [push_cast, seval, reduceCtorEq, hb26, hb28, hb31, hb32]
          intro b34 hb34
          have l34 : fresh b34 Mj := by simp only [hb34]
          simp only [push_cast, seval, reduceCtorEq, hb26, hb28, hb31, hb32, hb34]
          refine useP [_, _, _, _, _, _] cc3 ⟨l34, l32, l31, f28, f26, f25, trivial⟩ ?_
          simp only [push_cast, seval, reduceCtorEq, hb26, hb28, hb31, hb32, hb34]
          intro b36 hb36
          have l36 : fresh b36 Mj := by simp only [hb36]
          simp only [push_cast, seval, reduceCtorEq, hb26, hb28, hb31, hb32, hb34, hb36]
          refine useP [_, _, _, _, _, _, _] cc4 ⟨l36, l34, l32, l31, f28, f26, f25, trivial⟩ ?_
          simp only [push_cast, seval, reduceCtorEq, hb26, hb28, hb31, hb32, hb34, hb36]
          intro b38 hb38
          have l38 : fresh b38 Mj := by simp only [hb38]
          have n1 := (fresh_findS l31 f15).2
          have n2 := (fresh_findS l32 f15).2
          have n3 := (fresh_findS l34 f15).2
          have n4 := (fresh_findS l36 f15).2
          have n5 := (fresh_findS l38 f15).2
          simp only [push_cast, seval, reduceCtorEq, hb26, hb28, hb31, hb32, hb34, hb36, hb38, f15, f15a, f15b, f15c, n1, n2, n3, n4, n5]
          refine useL [_, _, _, _, _, _, _, _] cc5 (VeR.rd _) hgjm ⟨l38, l36, l34, l32, l31, f28, f26, f25, trivial⟩ fun u M6 hg6 hL6 hP1 => ?_
          obtain ⟨u, rfl, hP1⟩ := hP1
          obtain ⟨v0, z0, v1, z1, v2, z2, v3, z3, rfl⟩ := hP1.e4
          have hz6 := hz5.ext hg6.ext
          have cc6 := r11setslot_R (a := kk.at_) (q := kk.key) (w := w) hz6 zf
          rw [hP] at cc6
          have f15 := hg6.find f15
          have f13 := hg6.find f13
          obtain ⟨l38, l36, l34, l32, l31, f28, f26, f25, -⟩ := id hL6
          simp only [push_cast, seval, reduceCtorEq, hb26, hb28, hb31, hb32, hb34, hb36, hb38, f15, f15a, f15b, f15c, n1, n2, n3, n4, n5]
          refine useL [_, _, _, _, _, _, _, _] cc6 (VeR.rd _) hg6.marks ⟨l38, l36, l34, l32, l31, f28, f26, f25, trivial⟩ fun u M7 hg7 hL7 hP2 => ?_
          obtain ⟨u, rfl, hP2⟩ := hP2
          obtain ⟨v0', z0', v1', z1', v2', z2', v3', z3', rfl⟩ := hP2.e4
          have hP1 := hP1.ext hg7.ext
          have f15 := hg7.find f15
          have f13 := hg7.find f13
          obtain ⟨l38, l36, l34, l32, l31, f28, f26, f25, -⟩ := id hL7
          simp only [push_cast, seval, reduceCtorEq, hb26, hb28, hb31, hb32, hb34, hb36, hb38]
          refine useP [_, _, _, _, _, _, _, _] (v := .bool true) (fun M8 hr he => by have := sameAc_ok (x := A.1) (y := A.1) (sx := .slice none 0 0) (sy := .slice none 0 0) (M := M8) (by rw [hAs]; exact LiR.nil _ 0) (by rw [hAs]; exact LiR.nil _ 0) hr.marks (by rw [hAs]; decide) (by rw [hAs]; decide); rw [decide_eq_true rfl] at this; exact this) ⟨l38, l36, l34, l32, l31, f28, f26, f25, trivial⟩ ?_
          simp only [push_cast, seval, reduceCtorEq, hb26, hb28, hb31, hb32, hb34, hb36, hb38, bne_self_eq_false]
          refine useP [_, _, _, _, _, _, _, _] (v := .bool true) (by have := r11same_R hP1 hP2 hPf hPf; rw [decide_eq_true rfl] at this; exact this) ⟨l38, l36, l34, l32, l31, f28, f26, f25, trivial⟩ ?_
          have m13 := (fresh_findS l31 f13).2
          have m13b := (fresh_findS l32 f13).2
          have m13c := (fresh_findS l34 f13).2
          have m13d := (fresh_findS l36 f13).2
          have m13e := (fresh_findS l38 f13).2
          have hol := Ac.oL kk.at_ w 1 .empty (.slice none 0 0) []
          have kal : kk.at_.cells.length = 20 := kk.at_.len
          have ht20 : ∀ q : List Value, List.take 20 (kk.at_.cells ++ q) = kk.at_.cells := fun q => List.take_left' kal
          have hd24 : ∀ y0 y1 y2 y3 y4 y5 y6 : Value, List.drop 24 (kk.at_.cells ++ [y0, y1, y2, y3, y4, y5, y6]) = [y4, y5, y6] := fun y0 y1 y2 y3 y4 y5 y6 => by
            rw [show 24 = 20 + 4 from rfl, ← List.drop_drop, List.drop_left' kal]; rfl
          have ht24 : ∀ q : List Value, List.take 24 (kk.at_.cells ++ (w.cells ++ q)) = kk.at_.cells ++ w.cells := fun q => by
            rw [← List.append_assoc]; exact List.take_left' (by rw [List.length_append, kal]; rfl)
          have hd25 : ∀ y0 y1 y2 : Value, List.drop 25 (kk.at_.cells ++ (w.cells ++ [y0, y1, y2])) = [y1, y2] := fun y0 y1 y2 => by
            rw [show 25 = 20 + 5 from rfl, ← List.drop_drop, List.drop_left' kal]; rfl
          simp only [push_cast, seval, reduceCtorEq, hb26, hb28, hb31, hb32, hb34, hb36, hb38, bne_self_eq_false, f13, f15, f13a, f13b, f13c, m13, m13b, m13c, m13d, m13e, f15a, f15b, f15c, n1, n2, n3, n4, n5, xall, ht20, hd24, ht24, hd25, kal, hol]
          intro b231 hb231
          have l231 : fresh b231 M7 := by simp only [hb231]
          obtain ⟨ru, hru⟩ : ∃ ru : List Value, ru = X.cells (.slice qx X.slots.length ex) ++ (⟨kk.at_, w, 1, .empty, []⟩ : Ac).cells (.slice none 0 0) := ⟨_, rfl⟩
          have hul : ru.length = 54 := by rw [hru, List.length_append, Ac.len, Ac.len]
          have hUU : ∀ m, m < 2 → ∃ (U : Ac) (pu : Option Addr) (nu ku : Nat), List.take 27 (List.drop (m * 27) ru) = U.cells (.slice pu nu ku) := fun m hm => by
            rcases (show m = 0 ∨ m = 1 by omega) with rfl | rfl
            · exact ⟨X, qx, _, ex, by rw [hru]; exact List.take_left' (Ac.len _ _)⟩
            · exact ⟨⟨kk.at_, w, 1, .empty, []⟩, none, 0, 0, by rw [hru, show 1 * 27 = 27 from rfl, List.drop_left' (Ac.len _ _)]; exact List.take_of_length_le (Nat.le_of_eq (Ac.len _ _))⟩
          have g7 := (g5.trans hg6).trans hg7
          have gc7 := (hgj.trans hg6).trans hg7
          obtain ⟨Me, hMe⟩ : ∃ Me : Hp, Me = M7 ++ [⟨b231, 0, .vec 53 27 2, ru⟩] := ⟨_, rfl⟩
          have hge : Gr M7 Me := hMe ▸ Gr.lastB hg7.marks trivial rfl
          have r231 : findE Me b231 = some ⟨b231, 0, .vec 53 27 2, ru⟩ := hMe ▸ findE_lastB l231
          have fe25 : fresh b25 Me := hMe ▸ fresh_lastB (by simp only [hb231, not_false_iff]) f25
          have fe26 : fresh b26 Me := hMe ▸ fresh_lastB (by simp only [hb231, not_false_iff]) f26
          have fe28 : fresh b28 Me := hMe ▸ fresh_lastB (by simp only [hb231, not_false_iff]) f28
          refine loopO gB2_ok (pl := plVT) Tryz.mix (X := Nat × ((Value × Value × Value × Value) × (Value × Value × Value × Value)) × Hp)
            (fun q => ([(12, .pointer (some ⟨b12, 0, none⟩)), (13, .pointer (some ⟨b13, 0, none⟩)), (15, .pointer (some ⟨b15, 0, none⟩)), (19, .bool true), (22, .pointer (some ⟨b22, 0, none⟩)), (23, .slice p8 S.length k8), (25, .pointer (some ⟨b25, 0, none⟩)), (26, .pointer (some ⟨b26, 0, none⟩)), (28, .pointer (some ⟨b28, 0, none⟩)), (97, .slice (some ⟨b97, 0, none⟩) 2 2), (98, .int .i64 2), (99, .int .i64 i), (138, .slice (some ⟨b138, 0, none⟩) 2 2), (139, .int .i64 2), (140, .int .i64 j), (231, .slice (some ⟨b231, 0, none⟩) 2 2), (232, .int .i64 2), (233, .int .i64 q.1)], ⟨b28, 0, .cel 33, [q.2.1.2.1, q.2.1.2.2.1, q.2.1.2.2.2.1, q.2.1.2.2.2.2]⟩ :: ⟨b26, 0, .cel 33, [q.2.1.1.1, q.2.1.1.2.1, q.2.1.1.2.2.1, q.2.1.1.2.2.2]⟩ :: ⟨b25, 0, .cel 33, [.slice a0 z.base.length c0, .slice a1 z.reads.length c1, .slice a2 z.writes.length c2, .slice a3 z.cells.length c3]⟩ :: q.2.2))
            (fun q => q.1 ≤ 2 ∧ Gr Me q.2.2 ∧ fresh b28 q.2.2 ∧ fresh b26 q.2.2 ∧ fresh b25 q.2.2) (fun q => 2 - q.1) (0, ((.slice v0 P.1.base.length z0, .slice v1 P.1.reads.length z1, .slice v2 P.1.writes.length z2, .slice v3 P.1.cells.length z3), (.slice v0' P.1.base.length z0', .slice v1' P.1.reads.length z1', .slice v2' P.1.writes.length z2', .slice v3' P.1.cells.length z3')), Me) ?_ ?_ (by kernel_rfl) ?_
          · exact ⟨Nat.zero_le _, Gr.refl hge.marks, fe28, fe26, fe25⟩
          · rw [hMe, hru]
            have xt27 : ∀ q : List Value, List.take 27 (X.cells (.slice qx X.slots.length ex) ++ q) = X.cells (.slice qx X.slots.length ex) := fun q => List.take_left' (Ac.len _ _)
            have xd54 : ∀ y0 y1 y2 y3 y4 y5 y6 y7 y8 y9 y10 y11 y12 y13 y14 y15 y16 y17 y18 y19 y20 y21 y22 y23 y24 y25 y26 : Value, List.drop 54 (X.cells (.slice qx X.slots.length ex) ++ [y0, y1, y2, y3, y4, y5, y6, y7, y8, y9, y10, y11, y12, y13, y14, y15, y16, y17, y18, y19, y20, y21, y22, y23, y24, y25, y26]) = [] := fun y0 y1 y2 y3 y4 y5 y6 y7 y8 y9 y10 y11 y12 y13 y14 y15 y16 y17 y18 y19 y20 y21 y22 y23 y24 y25 y26 => List.drop_of_length_le (by rw [List.length_append, Ac.len]; exact Nat.le_refl _)
            simp only [push_cast, seval, reduceCtorEq, hb26, hb28, hb31, hb32, hb34, hb36, hb38, hb231, xt27, xd54]
            refine ⟨?_, by simp [marks_append, marksOf]⟩
            exact subH_skipB (by simp only [hb231, not_false_iff]) (fresh_lastB (by simp only [hb231, not_false_iff]) l38) (subH_skipB (by simp only [hb231, not_false_iff]) (fresh_lastB (by simp only [hb231, not_false_iff]) l36) (subH_skipB (by simp only [hb231, not_false_iff]) (fresh_lastB (by simp only [hb231, not_false_iff]) l34) (subH_skipB (by simp only [hb231, not_false_iff]) (fresh_lastB (by simp only [hb231, not_false_iff]) l32) (subH_skipB (by simp only [hb231, not_false_iff]) (fresh_lastB (by simp only [hb231, not_false_iff]) l31) (subH_lastB (e := (⟨b231, 0, .vec 53 27 2, X.cells (.slice qx X.slots.length ex) ++ (⟨kk.at_, w, 1, .empty, []⟩ : Ac).cells (.slice none 0 0)⟩ : Ent)) l231)))))
          · rintro ⟨m, ⟨⟨u0, u1, u2, u3⟩, ⟨w0, w1, w2, w3⟩⟩, Mq⟩ ⟨hmq, hgq, f28, f26, f25⟩
            dsimp only at hmq hgq f28 f26 f25 ⊢
            have hgqm := hgq.marks
            have g8 := (g7.trans hge).trans hgq
            have hz8 := hz.ext g8.ext
            have f231 := hgq.find r231
            by_cases hcm : m < 2
            · have m1 : (m : Int) < 2 := by omega
              have m27 : m * 27 ≤ 27 := by omega
              obtain ⟨U, pu, nu, ku, hUr⟩ := hUU m hcm
              have uall : (U.cells (.slice pu nu ku)).all oneC = true := Ac.all1 U _ rfl
              have h1a := (fresh_findS f28 f231).2
              have h1b := (fresh_findS f26 f231).2
              have h1c := (fresh_findS f25 f231).2
              have hQf := fit_put (c := Ce.ac ⟨U.at_, false, W.zero⟩ U.bal U.nonce U.code) zf hzf.c
              obtain ⟨Q, hQ⟩ : ∃ Q, putV z (Ce.ac ⟨U.at_, false, W.zero⟩ U.bal U.nonce U.code) = Q := ⟨_, rfl⟩
              have cq1 := vsetacc_R (a := U) (p := pu) (n := nu) (k := ku) hz8 zf
              rw [hQ] at cq1 hQf
              simp only [push_cast, seval, reduceCtorEq, hb26, hb28, hcm, m1, m27, f231, h1a, h1b, h1c, hUr, hul, uall, Ac.len]
              intro b41 hb41
              have l41 : fresh b41 Mq := by simp only [hb41]
              try simp only [push_cast, seval, reduceCtorEq, hb26, hb28, hb41]
              refine useL [_, _, _, _] cq1 (VeR.rd _) hgqm ⟨l41, f28, f26, f25, trivial⟩ fun u M9 hg9 hL9 hQ1 => ?_
              obtain ⟨u, rfl, hQ1⟩ := hQ1
              obtain ⟨v0, z0, v1, z1, v2, z2, v3, z3, rfl⟩ := hQ1.e4
              have hz9 := hz8.ext hg9.ext
              have cq2 := r11setacc_R (a := U) (p := pu) (n := nu) (k := ku) hz9 zf
              rw [hQ] at cq2
              obtain ⟨l41, f28, f26, f25, -⟩ := id hL9
              simp only [push_cast, seval, reduceCtorEq, hb26, hb28, hb41]
              refine useL [_, _, _, _] cq2 (VeR.rd _) hg9.marks ⟨l41, f28, f26, f25, trivial⟩ fun u Ma hga hLa hQ2 => ?_
              obtain ⟨u, rfl, hQ2⟩ := hQ2
              obtain ⟨v0', z0', v1', z1', v2', z2', v3', z3', rfl⟩ := hQ2.e4
              have hQ1 := hQ1.ext hga.ext
              obtain ⟨l41, f28, f26, f25, -⟩ := id hLa
              simp only [push_cast, seval, reduceCtorEq, hb26, hb28, hb41]
              refine useP [_, _, _, _] (v := .bool true) (by have := r11same_R hQ1 hQ2 hQf hQf; rw [decide_eq_true rfl] at this; exact this) ⟨l41, f28, f26, f25, trivial⟩ ?_
              simp only [push_cast, seval, reduceCtorEq, hb26, hb28, hb41, bne_self_eq_false, wrap_i64' (show -9223372036854775808 ≤ (m : Int) + 1 ∧ (m : Int) + 1 ≤ 9223372036854775807 by omega)]
              exact ⟨(m + 1, ((.slice v0 Q.1.base.length z0, .slice v1 Q.1.reads.length z1, .slice v2 Q.1.writes.length z2, .slice v3 Q.1.cells.length z3), (.slice v0' Q.1.base.length z0', .slice v1' Q.1.reads.length z1', .slice v2' Q.1.writes.length z2', .slice v3' Q.1.cells.length z3')), Ma), ⟨by dsimp only; omega, (hgq.trans hg9).trans hga, f28, f26, f25⟩, by dsimp only; omega, rfl, ⟨rfl, rfl, subH_drop l41 (subH_self _)⟩, rfl⟩
            · have m1 : ¬ (m : Int) < 2 := by omega
              simp only [push_cast, seval, reduceCtorEq, hb26, hb28, hcm, m1, wrap_i64' (show -9223372036854775808 ≤ (j : Int) + 1 ∧ (j : Int) + 1 ≤ 9223372036854775807 by omega)]
              exact ⟨(j + 1, ((u0, u1, u2, u3), (w0, w1, w2, w3)), Mq), ⟨by dsimp only; omega, gc7.trans (hge.trans hgq), f28, f26, f25⟩, by dsimp only; omega, rfl, ⟨rfl, rfl, subH_self _⟩, rfl⟩
        · have j1 : ¬ (j : Int) < 2 := by omega
          simp only [push_cast, seval, reduceCtorEq, hb26, hb28, hcj, j1]
          intro b263 hb263
          have l263 : fresh b263 Mj := by simp only [hb263]
          obtain ⟨rt, hrt⟩ : ∃ rt : List Value, rt = [.slice p8 S.length k8, .slice a0 z.base.length c0] := ⟨_, rfl⟩
          have htl : rt.length = 2 := by rw [hrt]; rfl
          have hTT : ∀ m, m < 2 → ∃ (tt : List Ac) (pt : Option Addr) (kt : Nat), List.take 1 (List.drop m rt) = [.slice pt tt.length kt] ∧ StR tt (.slice pt tt.length kt) Mj ∧ tt.length ≤ 1000000000 ∧ ∀ y ∈ tt, y.slots.length ≤ 2199023255551 := fun m hm => by
            rcases (show m = 0 ∨ m = 1 by omega) with rfl | rfl
            · exact ⟨S, p8, k8, by rw [hrt]; rfl, hsb.ext g5.ext, by have := hst.len; omega, fun y hy => by have := (mayA_slots (hst.ri.may y hy)).len; omega⟩
            · exact ⟨z.base, a0, c0, by rw [hrt]; rfl, hz5.parts.1, zf.b, zf.sl⟩
          obtain ⟨Mf, hMf⟩ : ∃ Mf : Hp, Mf = Mj ++ [⟨b263, 0, .vec 27 1 2, rt⟩] := ⟨_, rfl⟩
          have hgf : Gr Mj Mf := hMf ▸ Gr.lastB hgjm trivial rfl
          have r263 : findE Mf b263 = some ⟨b263, 0, .vec 27 1 2, rt⟩ := hMf ▸ findE_lastB l263
          have ff25 : fresh b25 Mf := hMf ▸ fresh_lastB (by simp only [hb263, not_false_iff]) f25
          refine loopO gB2_ok (pl := plVT) Tryz.mix (X := Nat × Hp)
            (fun q => ([(12, .pointer (some ⟨b12, 0, none⟩)), (13, .pointer (some ⟨b13, 0, none⟩)), (15, .pointer (some ⟨b15, 0, none⟩)), (19, .bool true), (22, .pointer (some ⟨b22, 0, none⟩)), (23, .slice p8 S.length k8), (25, .pointer (some ⟨b25, 0, none⟩)), (97, .slice (some ⟨b97, 0, none⟩) 2 2), (98, .int .i64 2), (99, .int .i64 i), (263, .slice (some ⟨b263, 0, none⟩) 2 2), (264, .int .i64 2), (265, .int .i64 q.1)], ⟨b25, 0, .cel 33, [.slice a0 z.base.length c0, .slice a1 z.reads.length c1, .slice a2 z.writes.length c2, .slice a3 z.cells.length c3]⟩ :: q.2))
            (fun q => q.1 ≤ 2 ∧ Gr Mf q.2 ∧ fresh b25 q.2) (fun q => 2 - q.1) (0, Mf) ?_ ?_ (by kernel_rfl) ?_
          · exact ⟨Nat.zero_le _, Gr.refl hgf.marks, ff25⟩
          · rw [hMf, hrt]
            simp only [push_cast, seval, reduceCtorEq, hb26, hb28, hb263]
            refine ⟨?_, by simp [marks_append, marksOf]⟩
            exact subH_skipB (by simp only [hb263, not_false_iff]) (fresh_lastB (by simp only [hb263, not_false_iff]) f28) (subH_skipB (by simp only [hb263, not_false_iff]) (fresh_lastB (by simp only [hb263, not_false_iff]) f26) (subH_lastB (e := (⟨b263, 0, .vec 27 1 2, [.slice p8 S.length k8, .slice a0 z.base.length c0]⟩ : Ent)) l263))
          · rintro ⟨m, Mq⟩ ⟨hmq, hgq, f25⟩
            dsimp only at hmq hgq f25 ⊢
            have hgqm := hgq.marks
            have f263 := hgq.find r263
            by_cases hcm : m < 2
            · have m1 : (m : Int) < 2 := by omega
              have m2 : m ≤ 1 := by omega
              obtain ⟨tt, pt, kt, htr, htS, htn, hts⟩ := hTT m hcm
              have h1c := (fresh_findS f25 f263).2
              have gq := (g5.trans hgf).trans hgq
              have hzq := hz.ext gq.ext
              have htq := htS.ext (hgf.trans hgq).ext
              have hNr : RiS (mergeV tt z).1 := mergeV_ri
              obtain ⟨N, hN⟩ : ∃ N, mergeV tt z = N := ⟨_, rfl⟩
              have cm1 := vmerge_R htq hzq zf htn
              rw [hN] at cm1 hNr
              simp only [push_cast, seval, reduceCtorEq, hcm, m1, m2, f263, h1c, htr, htl]
              refine useL [_] cm1 (UndR.rd _) hgqm ⟨f25, trivial⟩ fun u M9 hg9 hL9 hN1 => ?_
              obtain ⟨u, rfl, hN1⟩ := hN1
              obtain ⟨pm, km, rfl⟩ := hN1.slice
              have cm2 := r11merge_R (htq.ext hg9.ext) (hzq.ext hg9.ext) zf htn hts
              rw [hN] at cm2
              obtain ⟨f25, -⟩ := id hL9
              simp only [push_cast, seval, reduceCtorEq]
              refine useL [_] cm2 (UndR.rd _) hg9.marks ⟨f25, trivial⟩ fun u Ma hga hLa hN2 => ?_
              obtain ⟨u, rfl, hN2⟩ := hN2
              obtain ⟨pn, kn, rfl⟩ := hN2.slice
              have hN1 := hN1.ext hga.ext
              obtain ⟨f25, -⟩ := id hLa
              simp only [push_cast, seval, reduceCtorEq]
              refine useP [_] (v := .bool true) (by have := sameS_R hNr hNr hN1 hN2; rw [decide_eq_true rfl] at this; exact this) ⟨f25, trivial⟩ ?_
              simp only [push_cast, seval, reduceCtorEq, bne_self_eq_false, wrap_i64' (show -9223372036854775808 ≤ (m : Int) + 1 ∧ (m : Int) + 1 ≤ 9223372036854775807 by omega)]
              exact ⟨(m + 1, Ma), ⟨by dsimp only; omega, (hgq.trans hg9).trans hga, f25⟩, by dsimp only; omega, rfl, subH_self _, rfl⟩
            · have m1 : ¬ (m : Int) < 2 := by omega
              simp only [push_cast, seval, reduceCtorEq, hcm, m1, wrap_i64' (show -9223372036854775808 ≤ (i : Int) + 1 ∧ (i : Int) + 1 ≤ 9223372036854775807 by omega)]
              exact ⟨(i + 1, Mq), ⟨by dsimp only; omega, (((hgi.trans hg3).trans hg4).trans hgc).trans (hgj.trans (hgf.trans hgq))⟩, by dsimp only; omega, rfl, subH_drop f25 (subH_self _), rfl⟩
    · have i1 : ¬ (i : Int) < 2 := by omega
      simp only [push_cast, seval, reduceCtorEq, hc, i1]
end Go.Proofs.YtincedmdkdjakaaGreat
