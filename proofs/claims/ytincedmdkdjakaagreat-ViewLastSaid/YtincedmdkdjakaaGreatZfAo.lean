/- Texts of this claim, merged by program: Uu Uv Uw Ux Uy Uz Ba. -/
import Derived.Test.YtincedmdkdjakaaGreatZfAn
set_option linter.unusedSimpArgs false
set_option linter.unusedVariables false
namespace Go.Ev
theorem PlaceC.tail {x : Ce} {r : List Ce} {k : Ky} {i : Nat} (h : PlaceC (x :: r) k (i + 1)) : PlaceC r k i :=
  ⟨by have := h.le; rw [List.length_cons] at this; omega, fun j y hj hy => h.lo (j + 1) y (by omega) (by simpa using hy), fun j y hj hy => h.hi (j + 1) y (by omega) (by simpa using hy)⟩
theorem insC_is {c : Ce} : ∀ {L : List Ce} {i : Nat} {y : Ce}, PlaceC L c.key i → L[i]? = some y → y.key = c.key → insC c L = L.take i ++ c :: L.drop (i + 1)
  | [], i, y, _, hy, _ => by simp at hy
  | x :: r, 0, y, _, hy, hk => by
    obtain rfl : x = y := by simpa using hy
    unfold insC
    rw [if_neg (by rw [hk]; exact c.key.lt_irr), if_pos hk]; rfl
  | x :: r, i + 1, y, hp, hy, hk => by
    have h0 := hp.lo 0 x (Nat.succ_pos _) rfl
    unfold insC
    rw [if_neg (fun h => Ky.lt_asymm h0 h), if_neg (Ky.lt_ne h0), insC_is hp.tail (by simpa using hy) hk]; rfl
theorem insC_not {c : Ce} : ∀ {L : List Ce} {i : Nat}, PlaceC L c.key i → (¬ ∃ y, L[i]? = some y ∧ y.key = c.key) → insC c L = L.take i ++ c :: L.drop i
  | [], i, hp, _ => by
    obtain rfl : i = 0 := Nat.le_zero.1 hp.le
    rfl
  | x :: r, 0, hp, hn => by
    have h0 := hp.hi 0 x (Nat.le_refl _) rfl
    have h1 : x.key ≠ c.key := fun e => hn ⟨x, rfl, e⟩
    have h2 : c.key.lt x.key := by
      rcases Ky.tri x.key c.key with h | h | h
      · exact absurd h h0
      · exact absurd h h1
      · exact h
    unfold insC
    rw [if_pos h2]; rfl
  | x :: r, i + 1, hp, hn => by
    have h0 := hp.lo 0 x (Nat.succ_pos _) rfl
    unfold insC
    rw [if_neg (fun h => Ky.lt_asymm h0 h), if_neg (Ky.lt_ne h0), insC_not hp.tail (fun ⟨y, h1, h2⟩ => hn ⟨y, by simpa using h1, h2⟩)]; rfl
def VeO (e : Nat) (r : Vi × Int) : Value → Hp → Hp → Prop := fun v N1 H => ∃ u, v = .tuple #[u, .int .i64 r.2] ∧ ViO e r.1 u N1 H
theorem VeO.rd (e : Nat) (r : Vi × Int) : RdOwn (VeO e r) := by
  rintro v N1 A B h ⟨u, rfl, hu⟩
  exact ⟨u, rfl, ViO.rd _ _ _ _ _ _ h hu⟩
theorem VeO.r {e : Nat} {r : Vi × Int} {v : Value} {N1 H : Hp} (hf : freshN N1 H) (h : VeO e r v N1 H) : VeR r v (N1 ++ H) := by
  obtain ⟨u, rfl, hu⟩ := h
  exact ⟨u, rfl, hu.r hf⟩
theorem ceSets (l : List Ce) (k : Nat) (x : Ce) (hk : k < l.length) : List.take (k * 35) (l.flatMap Ce.cells) ++ (x.cells ++ List.drop (k * 35 + 35) (l.flatMap Ce.cells)) = (l.take k ++ x :: l.drop (k + 1)).flatMap Ce.cells := by
  have hd : ∀ (l : List Ce) (i : Nat), List.drop (i * 35) (l.flatMap Ce.cells) = (l.drop i).flatMap Ce.cells := by
    intro l
    induction l with
    | nil => intro i; simp
    | cons x r ih =>
      intro i
      cases i with
      | zero => simp
      | succ i => rw [List.flatMap_cons, Nat.succ_mul, Nat.add_comm, ← List.drop_drop, List.drop_left' (Ce.len x), ih, List.drop_succ_cons]
  have ht : ∀ (l : List Ce) (i : Nat), List.take (i * 35) (l.flatMap Ce.cells) = (l.take i).flatMap Ce.cells := by
    intro l
    induction l with
    | nil => intro i; simp
    | cons x r ih =>
      intro i
      cases i with
      | zero => simp
      | succ i => rw [List.flatMap_cons, Nat.succ_mul, Nat.add_comm, ← Ce.len x, List.take_length_add_append, Ce.len x, ih, List.take_succ_cons, List.flatMap_cons]
  rw [show k * 35 + 35 = (k + 1) * 35 by omega, hd, ht, List.flatMap_append, List.flatMap_cons]
theorem putV_bad {x : Vi} {c : Ce} (h : ¬ (RiV x ∧ mayC c)) : putV x c = (x, 1) := by unfold putV; rw [if_neg h]
theorem putV_not {x : Vi} {c : Ce} (h : RiV x ∧ mayC c) (h2 : c.key ∉ x.writes) : putV x c = (x, 30) := by unfold putV; rw [if_pos h, if_neg h2]
theorem putV_ok {x : Vi} {c : Ce} (h : RiV x ∧ mayC c) (h2 : c.key ∈ x.writes) : putV x c = (⟨x.base, x.reads, x.writes, insC c x.cells⟩, 0) := by unfold putV; rw [if_pos h, if_pos h2]
end Go.Ev
namespace Go.Proofs.YtincedmdkdjakaaGreat
open Go Go.Ev Go.Proofs
set_option maxRecDepth 100000
set_option maxHeartbeats 4000000
def plWr : Plans := fun i => if i = 1 then [(0, 9)] else if i = 2 then [(0, 9)] else if i = 3 then [(0, 9)] else if i = 5 then [(0, 9)] else if i = 7 then [(0, 9)] else Tryz.pl74 i
attribute [push_cast] plWr
theorem vwrite_ok {M : Hp} {x : Vi} {v : Value} {c : Ce} (hv : ViR x v M) (hb : x.Fit) : CallsW Tryz.prog 74 [v, c.v] M (VeO 74 (putV x c)) := by
  intro M0 hr he
  have hm := hr.marks
  replace hv := ViR.rd _ _ _ _ he.symm hv
  have hv0 := hv
  obtain ⟨vb, vr, vw, vc, rfl, h1, h2, h3, h4⟩ := hv
  obtain ⟨pb, kb, rfl⟩ := h1.slice
  obtain ⟨pr, kr, rfl⟩ := LiR.slice h2
  obtain ⟨pw, kw, rfl⟩ := LiR.slice h3
  obtain ⟨pc, kc, rfl⟩ := LiR.slice h4
  have hb0 := hb
  obtain ⟨n1, n2, n3, n4, n5⟩ := hb
  refine callsO gU4_ok Tryz.mix plWr Tryz.func74 rfl Tryz.ntmps74 Tryz.results74 rfl (by first | rfl | assumption) (Nat.le_of_ble_eq_true rfl) (by kernel_rfl) ?_
  simp only [push_cast, seval, reduceCtorEq]
  intro b2 hb2 b3 hb3 b4 hb4
  have f2 : fresh b2 M0 := hb2
  have f3 : fresh b3 M0 := hb3.2.2
  have f4 : fresh b4 M0 := hb4.2.2.2.2
  refine regO gU4_ok ?_
  simp only [push_cast, seval, reduceCtorEq, hb3, hb4]
  refine useB [_, _, _] (vown_ok hv0 hb0) (ViO.rd _ _) hm ⟨f4, f3, f2, trivial⟩ fun u N M1 hg hf hL1 hw hm1 hq => ?_
  have hq0 := hq
  obtain ⟨ub, ur, uw, uc, rfl, g1, g2, g3, g4⟩ := hq
  obtain ⟨qb, lb, rfl⟩ := StR.slice g1
  obtain ⟨qr, lr, rfl⟩ := LiR.slice g2
  obtain ⟨qw, lw, rfl⟩ := LiR.slice g3
  obtain ⟨qc, lc, rfl⟩ := OutG.slice g4
  simp only [push_cast, seval, reduceCtorEq, hb3, hb4]
  intro b6 hb6
  have hvN : ViR x (.agg #[.slice pb x.base.length kb, .slice pr x.reads.length kr, .slice pw x.writes.length kw, .slice pc x.cells.length kc]) (N ++ M1) := (hv0.ext hg.ext).find (find_behind hf)
  have hseN : SeR x.reads x.writes (.agg #[.slice pr x.reads.length kr, .slice pw x.writes.length kw]) (N ++ M1) := ⟨_, _, rfl, LiR.find (find_behind hf) (LiR.ext hg.ext h2), LiR.find (find_behind hf) (LiR.ext hg.ext h3)⟩
  have f6 : fresh b6 (N ++ M1) := hb6.2.2.2.2.2.2
  have hL : ∀ e6 e4 e3 e2 : Ent, e6.blk = b6 → e4.blk = b4 → e3.blk = b3 → e2.blk = b2 → freshN [e6, e4, e3, e2] (N ++ M1) := fun e6 e4 e3 e2 h6 h4 h3 h2 => ⟨h6 ▸ f6, h4 ▸ hL1.1, h3 ▸ hL1.2.1, h2 ▸ hL1.2.2.1, trivial⟩
  refine regO gU4_ok ?_
  simp only [push_cast, seval, reduceCtorEq, hb3, hb4, hb6]
  refine useP [_, _, _, _] (vright_R hvN hb0) (hL _ _ _ _ rfl rfl rfl rfl) ?_
  cases hri : pB (RiV x)
  · rw [putV_bad (fun h => pB_not.1 hri h.1)]
    simp only [push_cast, seval, reduceCtorEq, hb3, hb4, hb6]
    exact doneN [_, _, _, _] hg hw hm1 hf (VeO.rd _ _) ⟨_, rfl, hq0⟩
  have hrv := pB_iff.1 hri
  simp only [push_cast, seval, reduceCtorEq, hb3, hb4, hb6]
  refine regO gU4_ok ?_
  obtain ⟨my, hmy⟩ : ∃ q, mayCB c = q := ⟨_, rfl⟩
  cases my
  · rw [putV_bad (fun h => pB_not.1 hmy h.2)]
    simp only [push_cast, seval, reduceCtorEq, hb3, hb4, hb6, hmy]
    exact doneN [_, _, _, _] hg hw hm1 hf (VeO.rd _ _) ⟨_, rfl, hq0⟩
  have hmc : RiV x ∧ mayC c := ⟨hrv, pB_iff.1 hmy⟩
  simp only [push_cast, seval, reduceCtorEq, hb3, hb4, hb6, hmy]
  refine regO gU4_ok ?_
  simp only [push_cast, seval, reduceCtorEq, hb3, hb4, hb6]
  refine useP [_, _, _, _] (amay_R hseN (by omega) (by omega)) (hL _ _ _ _ rfl rfl rfl rfl) ?_
  rw [mayB_w]
  by_cases hw2 : c.key ∈ x.writes
  case neg =>
    rw [putV_not hmc hw2]
    simp only [push_cast, seval, reduceCtorEq, hb3, hb4, hb6, decide_eq_false hw2]
    exact doneN [_, _, _, _] hg hw hm1 hf (VeO.rd _ _) ⟨_, rfl, hq0⟩
  rw [putV_ok hmc hw2]
  simp only [push_cast, seval, reduceCtorEq, hb3, hb4, hb6, decide_eq_true hw2]
  refine regO gU4_ok ?_
  simp only [push_cast, seval, reduceCtorEq, hb3, hb4, hb6]
  refine useVL [_, _, _, _] (Q := fun u => ∃ i, PlaceC x.cells c.key i ∧ u = .tuple #[.int .i64 i, .bool (decide (∃ y, x.cells[i]? = some y ∧ y.key = c.key))]) (fun M2 hr2 he2 => vfind_ok (a := c) hr2 (by omega) (LiR.congr he2.symm (OutG.liR g4 rfl rfl M1)) hrv.srt) (hL _ _ _ _ rfl rfl rfl rfl) ?_
  rintro u ⟨i, hi, rfl⟩
  have hile := hi.le
  by_cases his : ∃ y, x.cells[i]? = some y ∧ y.key = c.key
  · have hd : decide (∃ y, x.cells[i]? = some y ∧ y.key = c.key) = true := decide_eq_true his
    obtain ⟨y, hy, hyk⟩ := his
    rw [insC_is hi hy hyk]
    have hil := (List.getElem?_eq_some_iff.1 hy).1
    rcases g4 with ⟨h0, -⟩ | ⟨b, c', hvv, hcc, hcl, rfl⟩
    · omega
    cases hvv
    have a1 : i * 35 + 35 ≤ (x.cells.flatMap Ce.cells).length := by rw [hcl]; omega
    have a2 := ceSets x.cells i c hil
    have hfin : OutG 74 35 ((x.cells.take i ++ c :: x.cells.drop (i + 1)).flatMap Ce.cells) (x.cells.take i ++ c :: x.cells.drop (i + 1)).length (.slice (some ⟨b, 0, none⟩) x.cells.length lc) [⟨b, 0, .vec 74 35 lc, (x.cells.take i ++ c :: x.cells.drop (i + 1)).flatMap Ce.cells⟩] := by
      have hlen : (x.cells.take i ++ c :: x.cells.drop (i + 1)).length = x.cells.length := by
        rw [List.length_append, List.length_cons, List.length_take, List.length_drop]; omega
      refine .inr ⟨b, lc, by rw [hlen], by rw [hlen]; exact hcc, flatMap_len (fun y => y.len) _, rfl⟩
    have i1 : (i : Int) < (x.cells.length : Int) := by omega
    have d4 := hL1.1
    have d3 := hL1.2.1
    have d2 := hL1.2.2.1
    have d6 := f6
    simp only [push_cast, seval, reduceCtorEq, List.append_eq, List.cons_append, List.nil_append] at d2 d3 d4 d6
    simp only [push_cast, seval, reduceCtorEq, hb3, hb4, hb6, hd, i1, hil, a1, a2, d2, d3, d4, d6, List.append_eq, List.cons_append, List.nil_append]
    exact doneN [_, _, _, _] (N1 := [⟨b, 0, .vec 74 35 lc, (x.cells.take i ++ c :: x.cells.drop (i + 1)).flatMap Ce.cells⟩]) hg ⟨trivial, trivial⟩ rfl ⟨hf.1, trivial⟩ (VeO.rd _ _) ⟨_, rfl, _, _, _, _, rfl, g1, g2, g3, hfin⟩
  · have hd : decide (∃ y, x.cells[i]? = some y ∧ y.key = c.key) = false := decide_eq_false his
    rw [insC_not hi his]
    have hlen : (x.cells.take i ++ c :: x.cells.drop i).length = x.cells.length + 1 := by
      rw [List.length_append, List.length_cons, List.length_take, List.length_drop]; omega
    simp only [push_cast, seval, reduceCtorEq, hb3, hb4, hb6, hd]
    intro b8 hb8
    rcases g4 with ⟨h0, h0', hvv, rfl⟩ | ⟨b, c', hvv, hcc, hcl, rfl⟩
    · simp only [Value.slice.injEq] at hvv
      obtain ⟨rfl, -, rfl⟩ := hvv
      have hnil : x.cells = [] := List.length_eq_zero_iff.1 h0
      obtain rfl : i = 0 := by omega
      have hins := insertC0_ok (z := c) (b2 := b8) (k2 := 1)
      rw [hnil]
      simp only [List.length_nil, List.take_nil, List.drop_nil, List.nil_append]
      refine CallsV.useMs (Hw := [⟨b8, 0, .vec 74 35 1, c.cells⟩]) (Hf := []) hins (fun e he => by rw [List.mem_singleton.1 he]; rfl) trivial ?_
      intro v2 N2 ho2
      refine ⟨ho2.wr.1, ho2.wr.2, fun hf2 => ?_⟩
      rcases ho2 with ⟨y1, -⟩ | ⟨bn, cn, hvn, hcn, hln, rfl⟩
      · omega
      have hq2 := hf2.1
      subst hvn
      simp only [push_cast, seval, reduceCtorEq, List.append_eq, List.cons_append, List.nil_append] at hq2
      simp only [push_cast, seval, reduceCtorEq, hb3, hb4, hb6, hq2, List.append_eq, List.cons_append, List.nil_append]
      have hfin : VeO 74 (⟨x.base, x.reads, x.writes, [c]⟩, 0) (.tuple #[.agg #[.slice qb x.base.length lb, .slice qr x.reads.length lr, .slice qw x.writes.length lw, .slice (some ⟨bn, 0, none⟩) 1 cn], .int .i64 0]) [⟨bn, 0, .vec 74 35 cn, [c].flatMap Ce.cells⟩] M1 := ⟨_, rfl, _, _, _, _, rfl, g1, g2, g3, .inr ⟨bn, cn, rfl, hcn, hln, rfl⟩⟩
      exact doneS (N1 := [⟨bn, 0, .vec 74 35 cn, [c].flatMap Ce.cells⟩]) hg ⟨trivial, trivial⟩ rfl ⟨hq2.2.2.2.2.2.2.2.2, trivial⟩ (VeO.rd _ _) hfin (((((List.Sublist.refl _).cons _).cons _).cons _).cons _ |>.cons_cons _)
    · cases hvv
      have hpl : (x.cells.take i).length = i := by rw [List.length_take]; omega
      obtain ⟨q, hq⟩ : ∃ q, q = x.cells.length - i := ⟨_, rfl⟩
      have hpr : (x.cells.drop i).length = q := by rw [List.length_drop, hq]
      have hb88 : ¬ b = b8 := Ne.symm (fun e => (fresh_app_iff.1 hb8.2.2.2.2.2.2.2.2).1.1 e)
      have hins := insertC_ok (P := x.cells.take i) (R := x.cells.drop i) (z := c) (b := b) (b2 := b8) (c := lc) (n := x.cells.length) (p := i) (q := q) (k2 := 1) hpl hpr (by omega) hcc (by omega) hb88
      rw [List.take_append_drop] at hins
      refine CallsV.pre (H' := ⟨b, 0, .vec 74 35 lc, x.cells.flatMap Ce.cells⟩ :: ⟨b8, 0, .vec 74 35 1, c.cells⟩ :: _) (List.perm_middle (l₁ := [_, _, _, _, _])) (by simp [marksOf]) ?_
      refine CallsV.useMs (Hw := [⟨b, 0, .vec 74 35 lc, x.cells.flatMap Ce.cells⟩, ⟨b8, 0, .vec 74 35 1, c.cells⟩]) (Hf := []) hins (fun e he => by
        rcases List.mem_cons.1 he with rfl | he
        · rfl
        · rw [List.mem_singleton.1 he]; rfl) trivial ?_
      intro v2 N2 ho2
      refine ⟨ho2.wr.1, ho2.wr.2, fun hf2 => ?_⟩
      rcases ho2 with ⟨y1, -⟩ | ⟨bn, cn, hvn, hcn, hln, rfl⟩
      · omega
      have hq2 := hf2.1
      subst hvn
      simp only [push_cast, seval, reduceCtorEq, List.append_eq, List.cons_append, List.nil_append] at hq2
      simp only [push_cast, seval, reduceCtorEq, hb3, hb4, hb6, hq2, List.append_eq, List.cons_append, List.nil_append]
      have hfin : VeO 74 (⟨x.base, x.reads, x.writes, (x.cells.take i ++ c :: x.cells.drop i)⟩, 0) (.tuple #[.agg #[.slice qb x.base.length lb, .slice qr x.reads.length lr, .slice qw x.writes.length lw, .slice (some ⟨bn, 0, none⟩) (x.cells.length + 1) cn], .int .i64 0]) [⟨bn, 0, .vec 74 35 cn, (x.cells.take i ++ c :: x.cells.drop i).flatMap Ce.cells⟩] M1 := ⟨_, rfl, _, _, _, _, rfl, g1, g2, g3, .inr ⟨bn, cn, by rw [hlen], by rw [hlen]; exact hcn, by rw [hlen]; exact hln, rfl⟩⟩
      exact doneS (N1 := [⟨bn, 0, .vec 74 35 cn, (x.cells.take i ++ c :: x.cells.drop i).flatMap Ce.cells⟩]) hg ⟨trivial, trivial⟩ rfl ⟨hq2.2.2.2.2.2.2.2.2, trivial⟩ (VeO.rd _ _) hfin (((((List.Sublist.refl _).cons _).cons _).cons _).cons _ |>.cons_cons _)
theorem vwrite_R {M : Hp} {x : Vi} {v : Value} {c : Ce} (hv : ViR x v M) (hb : x.Fit) : CallsR Tryz.prog 74 [v, c.v] M (VeR (putV x c)) :=
  (vwrite_ok hv hb).toR fun v N1 A _ _ hf hq => hq.r hf
end Go.Proofs.YtincedmdkdjakaaGreat
set_option linter.unusedSimpArgs false
set_option linter.unusedVariables false
namespace Go.Ev
end Go.Ev
namespace Go.Proofs.YtincedmdkdjakaaGreat
open Go Go.Ev Go.Proofs
set_option maxRecDepth 100000
set_option maxHeartbeats 4000000
attribute [-push_cast] evAppend_nil evAppend_some slAddr
end Go.Proofs.YtincedmdkdjakaaGreat
set_option linter.unusedSimpArgs false
set_option linter.unusedVariables false
namespace Go.Ev
theorem Ce.setBalN (c : Ce) (w : W) : c.key.cells ++ (w.cells ++ List.drop 29 c.cells) = (⟨c.key, w, c.nonce, c.code, c.val⟩ : Ce).cells := by
  have := c.setBal w
  rwa [c.take25] at this
theorem Ce.l29 (c : Ce) : (List.drop 29 c.cells).length = 6 := by rw [List.length_drop, c.len]
theorem Ce.l30 (c : Ce) : (List.drop 30 c.cells).length = 5 := by rw [List.length_drop, c.len]
theorem Ce.t29 (c : Ce) : (List.take 29 c.cells).length = 29 := by rw [List.length_take, c.len]; rfl
theorem Ce.z_sv (k : Ky) (w : W) : List.take 31 (Ce.z k).cells ++ w.cells = (Ce.sv k w).cells := by
  have := Ce.z_set4 k w
  rwa [(Ce.z k).drop35, List.append_nil] at this
end Go.Ev
namespace Go.Proofs.YtincedmdkdjakaaGreat
open Go Go.Ev Go.Proofs
set_option maxRecDepth 100000
set_option maxHeartbeats 4000000
theorem vsetacc_R {M : Hp} {x : Vi} {v : Value} {a : Ac} {p : Option Addr} {n k : Nat} (hv : ViR x v M) (hb : x.Fit) : CallsR Tryz.prog 36 [v, .agg (a.cells (.slice p n k)).toArray] M (VeR (putV x (Ce.ac ⟨a.at_, false, W.zero⟩ a.bal a.nonce a.code))) := by
  intro M0 hr he
  have hm := hr.marks
  replace hv := ViR.rd _ _ _ _ he.symm hv
  have hv0 := hv
  obtain ⟨vb, vr, vw, vc, rfl, h1, h2, h3, h4⟩ := hv
  obtain ⟨pb, kb, rfl⟩ := h1.slice
  obtain ⟨pr, kr, rfl⟩ := LiR.slice h2
  obtain ⟨pw, kw, rfl⟩ := LiR.slice h3
  obtain ⟨pc, kc, rfl⟩ := LiR.slice h4
  have ec : (⟨(Ce.z ⟨a.at_, false, W.zero⟩).key, a.bal, a.nonce, a.code, (Ce.z ⟨a.at_, false, W.zero⟩).val⟩ : Ce) = Ce.ac ⟨a.at_, false, W.zero⟩ a.bal a.nonce a.code := rfl
  refine callsO gU4_ok Tryz.mix (fun i => if i = 1 then [(0, 9)] else Tryz.pl36 i) Tryz.func36 rfl Tryz.ntmps36 Tryz.results36 rfl (by first | rfl | assumption) (Nat.le_of_ble_eq_true rfl) (by kernel_rfl) ?_
  simp only [push_cast, seval, reduceCtorEq]
  intro b2 hb2 b3 hb3 b4 hb4
  have f2 : fresh b2 M0 := hb2
  have f3 : fresh b3 M0 := hb3.2.2
  have f4 : fresh b4 M0 := hb4.2.2.2.2
  refine regO gU4_ok ?_
  simp only [push_cast, seval, reduceCtorEq, hb3, hb4, Ky.oF, Ce.setBalN, Ce.setNon, Ce.setCod, Ce.l29, Ce.l30, Ce.t29, ec]
  refine useL [_, _, _] (vwrite_R (c := Ce.ac ⟨a.at_, false, W.zero⟩ a.bal a.nonce a.code) hv0 hb) (VeR.rd _) hm ⟨f4, f3, f2, trivial⟩ fun u M1 hg1 hL1 hq1 => ?_
  obtain ⟨u, rfl, hu⟩ := hq1
  have hu0 := hu
  obtain ⟨ub, ur, uw, uc, rfl, g1, g2, g3, g4⟩ := hu
  obtain ⟨qb, lb, rfl⟩ := StR.slice g1
  obtain ⟨qr, lr, rfl⟩ := LiR.slice g2
  obtain ⟨qw, lw, rfl⟩ := LiR.slice g3
  obtain ⟨qc, lc, rfl⟩ := LiR.slice g4
  simp only [push_cast, seval, reduceCtorEq, hb3, hb4]
  exact doneK2 [_, _, _] hg1 (VeR.rd _) ⟨_, rfl, hu0⟩
theorem vsetslot_R {M : Hp} {x : Vi} {v : Value} {a : Ad} {q w : W} (hv : ViR x v M) (hb : x.Fit) : CallsR Tryz.prog 34 [v, a.v, q.v, w.v] M (VeR (putV x (Ce.sv ⟨a, true, q⟩ w))) := by
  intro M0 hr he
  have hm := hr.marks
  replace hv := ViR.rd _ _ _ _ he.symm hv
  have hv0 := hv
  obtain ⟨vb, vr, vw, vc, rfl, h1, h2, h3, h4⟩ := hv
  obtain ⟨pb, kb, rfl⟩ := h1.slice
  obtain ⟨pr, kr, rfl⟩ := LiR.slice h2
  obtain ⟨pw, kw, rfl⟩ := LiR.slice h3
  obtain ⟨pc, kc, rfl⟩ := LiR.slice h4
  refine callsO gU4_ok Tryz.mix (fun i => if i = 1 then [(0, 9)] else Tryz.pl34 i) Tryz.func34 rfl Tryz.ntmps34 Tryz.results34 rfl (by first | rfl | assumption) (Nat.le_of_ble_eq_true rfl) (by kernel_rfl) ?_
  simp only [push_cast, seval, reduceCtorEq]
  intro b2 hb2 b3 hb3 b4 hb4 b5 hb5 b6 hb6
  have f2 : fresh b2 M0 := hb2
  have f3 : fresh b3 M0 := hb3.2.2
  have f4 : fresh b4 M0 := hb4.2.2.2.2
  have f5 : fresh b5 M0 := hb5.2.2.2.2.2.2
  have f6 : fresh b6 M0 := hb6.2.2.2.2.2.2.2.2
  refine regO gU4_ok ?_
  simp only [push_cast, seval, reduceCtorEq, hb3, hb4, hb5, hb6, Ad.k1, Ad.k2, Ad.k3, Ad.k4, Ky.oT, Ce.z_sv]
  refine useL [_, _, _, _, _] (vwrite_R (c := Ce.sv ⟨a, true, q⟩ w) hv0 hb) (VeR.rd _) hm ⟨f6, f5, f4, f3, f2, trivial⟩ fun u M1 hg1 hL1 hq1 => ?_
  obtain ⟨u, rfl, hu⟩ := hq1
  have hu0 := hu
  obtain ⟨ub, ur, uw, uc, rfl, g1, g2, g3, g4⟩ := hu
  obtain ⟨qb, lb, rfl⟩ := StR.slice g1
  obtain ⟨qr, lr, rfl⟩ := LiR.slice g2
  obtain ⟨qw, lw, rfl⟩ := LiR.slice g3
  obtain ⟨qc, lc, rfl⟩ := LiR.slice g4
  simp only [push_cast, seval, reduceCtorEq, hb3, hb4, hb5, hb6]
  exact doneK2 [_, _, _, _, _] hg1 (VeR.rd _) ⟨_, rfl, hu0⟩
end Go.Proofs.YtincedmdkdjakaaGreat
set_option linter.unusedSimpArgs false
set_option linter.unusedVariables false
namespace Go.Ev
def ApR (r : Ac × Int) : Value → Hp → Prop := fun v H => ∃ sv, v = .tuple #[.agg (r.1.cells sv).toArray, .int .i64 r.2] ∧ LiR Sl.cells 8 H r.1.slots sv
theorem ApR.rd (r : Ac × Int) : RdOnly (ApR r) := by
  rintro v A B h ⟨sv, rfl, hu⟩
  exact ⟨sv, rfl, hu.congr h⟩
theorem Ac.parts (a : Ac) (sv : Value) : a.cells sv = a.at_.cells ++ (a.bal.cells ++ [.int .i64 a.nonce, .string a.code, sv]) := rfl
theorem Ac.setNon (a : Ac) (n : Int) (sv : Value) : List.take 24 (a.cells sv) ++ (.int .i64 n :: List.drop 25 (a.cells sv)) = (⟨a.at_, a.bal, n, a.code, a.slots⟩ : Ac).cells sv := by
  rw [a.parts, Ad.k6, Ad.k7, List.append_assoc]; rfl
theorem Ac.setCod (a : Ac) (s : ByteArray) (sv : Value) : List.take 25 (a.cells sv) ++ (.string s :: List.drop 26 (a.cells sv)) = (⟨a.at_, a.bal, a.nonce, s, a.slots⟩ : Ac).cells sv := by
  rw [a.parts, Ad.k8, Ad.k9, List.append_assoc, List.append_assoc]; rfl
end Go.Ev
namespace Go.Proofs.YtincedmdkdjakaaGreat
open Go Go.Ev Go.Proofs
set_option maxRecDepth 100000
set_option maxHeartbeats 4000000
def plAp : Plans := fun i => if i = 1 then [(0, 9)] else if i = 4 then [] else Tryz.pl56 i
attribute [push_cast] plAp
theorem apply_R {M : Hp} {a : Ac} {sv : Value} {c : Ce} (hs : LiR Sl.cells 8 M a.slots sv) : CallsR Tryz.prog 56 [.agg (a.cells sv).toArray, c.v] M (ApR (appC a c)) := by
  intro M0 hr he
  have hm := hr.marks
  replace hs := hs.congr he.symm
  have hs0 := hs
  obtain ⟨ps, ks, rfl⟩ := LiR.slice hs0
  refine callsO gU4_ok Tryz.mix plAp Tryz.func56 rfl Tryz.ntmps56 Tryz.results56 rfl (by first | rfl | assumption) (Nat.le_of_ble_eq_true rfl) (by kernel_rfl) ?_
  simp only [push_cast, seval, reduceCtorEq]
  intro b2 hb2 b3 hb3 b4 hb4
  have f2 : fresh b2 M0 := hb2
  have f3 : fresh b3 M0 := hb3.2.2
  have f4 : fresh b4 M0 := hb4.2.2.2.2
  refine regO gU4_ok ?_
  cases hsl : c.key.slot
  · have e : appC a c = (⟨a.at_, c.bal, c.nonce, c.code, a.slots⟩, 0) := by unfold appC; rw [if_neg (by rw [hsl]; decide)]
    rw [e]
    simp only [push_cast, seval, reduceCtorEq, hb3, hb4, hsl]
    obtain ⟨Z, hZ⟩ : ∃ Z : List Value, Z = [.int .u8 0, .int .u8 0, .int .u8 0, .int .u8 0, .int .u8 0, .int .u8 0, .int .u8 0, .int .u8 0, .int .u8 0, .int .u8 0, .int .u8 0, .int .u8 0, .int .u8 0, .int .u8 0, .int .u8 0, .int .u8 0, .int .u8 0, .int .u8 0, .int .u8 0, .int .u8 0, .int .u64 0, .int .u64 0, .int .u64 0, .int .u64 0, .int .i64 0, .string .empty, .slice none 0 0] := ⟨_, rfl⟩
    rw [← hZ]
    have d34 : ¬ b3 = b4 := hb4.2.1
    have d24 : ¬ b2 = b4 := hb4.2.2.2.1
    have d23 : ¬ b2 = b3 := hb3.2.1
    refine drawN gU4_ok Tryz.mix [(2, .pointer (some ⟨b2, 0, none⟩)), (3, .pointer (some ⟨b3, 0, none⟩)), (4, .pointer (some ⟨b4, 0, none⟩)), (6, .int .i64 0)]
        (fun i => match i with
          | 0 => Value.pointer (some ⟨b3, 25, none⟩)
          | 1 => c.bal.v
          | 2 => Value.pointer (some ⟨b3, 29, none⟩)
          | 3 => Value.int .i64 c.nonce
          | 4 => Value.pointer (some ⟨b3, 30, none⟩)
          | 5 => Value.string c.code
          | 6 => Value.pointer (some ⟨b2, 20, none⟩)
          | 8 => Value.pointer (some ⟨b2, 24, none⟩)
          | 10 => Value.pointer (some ⟨b2, 25, none⟩)
          | _ => undef)
        (fun l => ⟨b4, 0, .cel 53, Z⟩ :: ⟨b3, 0, .cel 74, c.cells⟩ :: ⟨b2, 0, .cel 53, (⟨a.at_, if l 7 = true then c.bal else a.bal, if l 9 = true then c.nonce else a.nonce, if l 11 = true then c.code else a.code, a.slots⟩ : Ac).cells (.slice ps a.slots.length ks)⟩ :: M0) (by kernel_rfl) (by kernel_rfl) (by simp only [push_cast, seval, reduceCtorEq, subT]) (by kernel_rfl) (by rfl) ?_ ?_
    · intro i o ho l T' hli hdep hcl hT
      have hi := (Array.getElem?_eq_some_iff.1 ho).1
      replace hi : i < 12 := hi
      have t2 : getT T' 2 = some (.pointer (some ⟨b2, 0, none⟩)) := hT.1
      have t3 : getT T' 3 = some (.pointer (some ⟨b3, 0, none⟩)) := hT.2.1
      obtain rfl | rfl | rfl | rfl | rfl | rfl | rfl | rfl | rfl | rfl | rfl | rfl : i = 0 ∨ i = 1 ∨ i = 2 ∨ i = 3 ∨ i = 4 ∨ i = 5 ∨ i = 6 ∨ i = 7 ∨ i = 8 ∨ i = 9 ∨ i = 10 ∨ i = 11 := by omega
      · simp only [List.getElem?_toArray, List.getElem?_cons_zero, List.getElem?_cons_succ, Option.some.injEq] at ho; subst ho
        simp only [push_cast, seval, reduceCtorEq, t3]
        first | exact rfl | exact ⟨fun _ => rfl, rfl⟩
      · simp only [List.getElem?_toArray, List.getElem?_cons_zero, List.getElem?_cons_succ, Option.some.injEq] at ho; subst ho
        have g0 := (hdep 0 (by kernel_rfl)).2 22 rfl
        simp only [push_cast, seval, reduceCtorEq, g0, d34]
        first | exact rfl | exact ⟨fun _ => rfl, rfl⟩
      · simp only [List.getElem?_toArray, List.getElem?_cons_zero, List.getElem?_cons_succ, Option.some.injEq] at ho; subst ho
        simp only [push_cast, seval, reduceCtorEq, t3]
        first | exact rfl | exact ⟨fun _ => rfl, rfl⟩
      · simp only [List.getElem?_toArray, List.getElem?_cons_zero, List.getElem?_cons_succ, Option.some.injEq] at ho; subst ho
        have g2 := (hdep 2 (by kernel_rfl)).2 24 rfl
        simp only [push_cast, seval, reduceCtorEq, g2, d34]
        first | exact rfl | exact ⟨fun _ => rfl, rfl⟩
      · simp only [List.getElem?_toArray, List.getElem?_cons_zero, List.getElem?_cons_succ, Option.some.injEq] at ho; subst ho
        simp only [push_cast, seval, reduceCtorEq, t3]
        first | exact rfl | exact ⟨fun _ => rfl, rfl⟩
      · simp only [List.getElem?_toArray, List.getElem?_cons_zero, List.getElem?_cons_succ, Option.some.injEq] at ho; subst ho
        have g4 := (hdep 4 (by kernel_rfl)).2 26 rfl
        simp only [push_cast, seval, reduceCtorEq, g4, d34]
        first | exact rfl | exact ⟨fun _ => rfl, rfl⟩
      · simp only [List.getElem?_toArray, List.getElem?_cons_zero, List.getElem?_cons_succ, Option.some.injEq] at ho; subst ho
        simp only [push_cast, seval, reduceCtorEq, t2]
        first | exact rfl | exact ⟨fun _ => rfl, rfl⟩
      · simp only [List.getElem?_toArray, List.getElem?_cons_zero, List.getElem?_cons_succ, Option.some.injEq] at ho; subst ho
        have g6 := (hdep 6 (by kernel_rfl)).2 28 rfl
        have g1 := (hdep 1 (by kernel_rfl)).2 23 rfl
        have l7 : l 7 = false := hli
        have l9 : l 9 = false := Bool.eq_false_iff.2 fun h => by (have := hcl 9 7 (by kernel_rfl) h; rw [hli] at this; cases this)
        have l11 : l 11 = false := Bool.eq_false_iff.2 fun h => by (have := hcl 11 7 (by kernel_rfl) h; rw [hli] at this; cases this)
        simp only [push_cast, seval, reduceCtorEq, g6, g1, l7, l9, l11, d24, d23, Bool.or_true, Bool.or_false, Bool.true_or, Bool.false_or, Nat.reduceBEq, beq_self_eq_true, Option.isSome_none, Option.isSome_some, false_implies, true_and, and_true, reduceIte, forall_const]
      · simp only [List.getElem?_toArray, List.getElem?_cons_zero, List.getElem?_cons_succ, Option.some.injEq] at ho; subst ho
        simp only [push_cast, seval, reduceCtorEq, t2]
        first | exact rfl | exact ⟨fun _ => rfl, rfl⟩
      · simp only [List.getElem?_toArray, List.getElem?_cons_zero, List.getElem?_cons_succ, Option.some.injEq] at ho; subst ho
        have g8 := (hdep 8 (by kernel_rfl)).2 29 rfl
        have g3 := (hdep 3 (by kernel_rfl)).2 25 rfl
        have l7 : l 7 = true := (hdep 7 (by kernel_rfl)).1
        have l9 : l 9 = false := hli
        have l11 : l 11 = false := Bool.eq_false_iff.2 fun h => by (have := hcl 11 9 (by kernel_rfl) h; rw [hli] at this; cases this)
        simp only [push_cast, seval, reduceCtorEq, g8, g3, l7, l9, l11, d24, d23, Ac.setNon, Bool.or_true, Bool.or_false, Bool.true_or, Bool.false_or, Nat.reduceBEq, beq_self_eq_true, Option.isSome_none, Option.isSome_some, false_implies, true_and, and_true, reduceIte, forall_const]
      · simp only [List.getElem?_toArray, List.getElem?_cons_zero, List.getElem?_cons_succ, Option.some.injEq] at ho; subst ho
        simp only [push_cast, seval, reduceCtorEq, t2]
        first | exact rfl | exact ⟨fun _ => rfl, rfl⟩
      · simp only [List.getElem?_toArray, List.getElem?_cons_zero, List.getElem?_cons_succ, Option.some.injEq] at ho; subst ho
        have g10 := (hdep 10 (by kernel_rfl)).2 30 rfl
        have g5 := (hdep 5 (by kernel_rfl)).2 27 rfl
        have l7 : l 7 = true := (hdep 7 (by kernel_rfl)).1
        have l9 : l 9 = true := (hdep 9 (by kernel_rfl)).1
        have l11 : l 11 = false := hli
        simp only [push_cast, seval, reduceCtorEq, g10, g5, l7, l9, l11, d24, d23, Ac.setCod, Bool.or_true, Bool.or_false, Bool.true_or, Bool.false_or, Nat.reduceBEq, beq_self_eq_true, Option.isSome_none, Option.isSome_some, false_implies, true_and, and_true, reduceIte, forall_const]
    · intro l hall
      have l7 : l 7 = true := hall 7 (by decide)
      have l9 : l 9 = true := hall 9 (by decide)
      have l11 : l 11 = true := hall 11 (by decide)
      have hZl : Z.length = 27 := by rw [hZ]; rfl
      have hZd : List.drop 27 Z = [] := List.drop_of_length_le (Nat.le_of_eq hZl)
      simp only [push_cast, seval, reduceCtorEq, l7, l9, l11, hb3, hb4, hZl, hZd]
      exact doneK2 [_, _, _] (.refl hm) (ApR.rd _) ⟨_, rfl, hs⟩
  · have e : appC a c = (⟨a.at_, a.bal, a.nonce, a.code, (mergeR a.slots [⟨c.key.key, c.val⟩]).1⟩, (mergeR a.slots [⟨c.key.key, c.val⟩]).2) := by unfold appC; rw [if_pos hsl]
    rw [e]
    simp only [push_cast, seval, reduceCtorEq, hb3, hb4, hsl]
    refine useL [_, _, _] (put_R (k := c.key.key) (w := c.val) hs) (PutQ.rd _) hm ⟨f4, f3, f2, trivial⟩ fun u M1 hg1 hL1 hq1 => ?_
    obtain ⟨w, rfl, hw⟩ := hq1
    obtain ⟨pw, kw, rfl⟩ := LiR.slice hw
    simp only [push_cast, seval, reduceCtorEq, hb3, hb4]
    exact doneK2 [_, _, _] hg1 (ApR.rd _) ⟨_, rfl, hw⟩
end Go.Proofs.YtincedmdkdjakaaGreat
set_option linter.unusedSimpArgs false
set_option linter.unusedVariables false
namespace Go.Ev
theorem mergeV_bad {s : List Ac} {x : Vi} (h : ¬ (RiS s ∧ RiV x)) : mergeV s x = ([], 1) := by unfold mergeV; rw [if_neg h]
theorem mergeV_ok {s : List Ac} {x : Vi} (h : RiS s ∧ RiV x) : mergeV s x = goM s x.cells := by unfold mergeV; rw [if_pos h]
theorem goM_cons {s : List Ac} {c : Ce} {r : List Ce} : goM s (c :: r) = if (appC (findS s c.key.at_) c).2 = 0 then (if (setS s (appC (findS s c.key.at_) c).1).2 = 0 then goM (setS s (appC (findS s c.key.at_) c).1).1 r else ([], (setS s (appC (findS s c.key.at_) c).1).2)) else ([], (appC (findS s c.key.at_) c).2) := by rw [goM]
end Go.Ev
namespace Go.Proofs.YtincedmdkdjakaaGreat
open Go Go.Ev Go.Proofs
set_option maxRecDepth 100000
set_option maxHeartbeats 4000000
theorem valuesC_ok (p : Option Addr) (n c : Nat) : CallsV Tryz.prog 55 [.slice p n c] [] (fun r N => ∃ b1, r = .func (.func 89) #[] #[.pointer (some ⟨b1, 0, none⟩)] ∧ N = [⟨b1, 0, .cel 31, [.slice p n c]⟩]) := by
  refine callsO (noG_ok _) Tryz.mix Tryz.pl55 Tryz.func55 rfl Tryz.ntmps55 Tryz.results55 rfl (by first | rfl | assumption) (Nat.le_of_ble_eq_true rfl) (by kernel_rfl) ?_
  simp only [push_cast, seval, reduceCtorEq]
  intro b1
  exact ⟨_, List.Sublist.refl _, b1, rfl, rfl⟩
theorem YieldV.subX {args : List Value} {l : Nat} {H H' : Hp} {K : Value → Hp → Prop} (hy : YieldV Tryz.prog l args H' K) (hs : subH H H') (hm : marksOf H = marksOf H') : YieldV Tryz.prog l args H K := by
  intro w0 mu w h
  obtain ⟨fn, tmps, assign, body, h1, h2⟩ := hy w0 mu w (h.sub hs)
  refine ⟨fn, tmps, assign, body, h1, h2.mono ?_⟩
  rintro e w' ⟨v, H'', h3, h4, h5, h6⟩
  exact ⟨v, H'', h3, h4, h5, h6.trans hm.symm⟩
theorem ceIter {Hc : Hp} {ss : List Ce} {v : Value} {b1 : Nat} {k1 : Kind} (hl : LiR Ce.cells 35 Hc ss v) (hn : ss.length < 1099511627776) (hmc : marksOf Hc = []) (h1 : findE Hc b1 = some ⟨b1, 0, k1, [v]⟩) :
    IterV Tryz.prog 89 [.pointer (some ⟨b1, 0, none⟩)] Hc (ss.map fun s => [s.v]) := by
  obtain ⟨p, c, rfl, hla⟩ := LiR.openE hl
  refine ⟨enterO Tryz.func89 rfl rfl, fun X Ho I St l x0 hro hmk h0 hy => ?_⟩
  have hmarks : ∀ x, marksOf (Hc ++ Ho x) = [] := fun x => by rw [marks_append, hmc, hmk]; rfl
  have hm0 := hmarks x0
  have h1' := fun z => find_left (B := Ho z) h1
  have yl : ∀ (j : Nat) (z : X) (v : Value) (K' : Value → Hp → Prop) (hj : j < ss.length), v = (ss[j]).v → I j z → (∀ x', I (j + 1) x' → K' (.bool true) (Hc ++ Ho x')) → (∀ x', St x' → K' (.bool false) (Hc ++ Ho x')) → YieldV Tryz.prog l [v] (Hc ++ Ho z) K' := fun j z v K' hj hv hi ht hf => by
    subst hv
    refine (hy j z [(ss[j]).v] (by rw [List.getElem?_map, List.getElem?_eq_getElem hj]; rfl) hi).frame ?_ ?_
    · rintro v H' (⟨rfl, x', _, rfl⟩ | ⟨rfl, x', _, rfl⟩) <;> exact hro z x'
    · rintro v H' (⟨rfl, x', h, rfl⟩ | ⟨rfl, x', h, rfl⟩)
      · exact ht x' h
      · exact hf x' h
  obtain ⟨vs, hvs⟩ : ∃ vs, vs = ss.map fun s => [Ce.v s] := ⟨_, rfl⟩
  have hvl : vs.length = ss.length := by rw [hvs]; simp
  have yf : ∀ (x' : X), (I vs.length x' ∨ St x') → ∃ H'_1, List.Sublist H'_1 (dropM (Hc ++ Ho x')) ∧ ∃ z, (I vs.length z ∨ St z) ∧ H'_1 = Ho z := fun x' hst => by
    refine ⟨Ho x', ?_, x', hst, rfl⟩
    rw [dropM_eq (hmarks x')]
    exact List.sublist_append_right _ _
  rw [← hvs]
  refine callsO (noG_ok _) Tryz.mix Tryz.pl89 Tryz.func89 rfl Tryz.ntmps89 Tryz.results89 rfl (by first | rfl | assumption) (Nat.le_of_ble_eq_true rfl) (by kernel_rfl) ?_
  simp only [push_cast, seval, reduceCtorEq, h1']
  refine loopO (noG_ok _) (pl := Tryz.pl89) Tryz.mix (X := Nat × X)
    (fun s => ([(0, .func (.yield l) #[] #[]), (5, .slice p ss.length c), (6, .int .i64 ss.length), (7, .int .i64 s.1)], Hc ++ Ho s.2))
    (fun s => s.1 ≤ ss.length ∧ I s.1 s.2) (fun s => ss.length - s.1) (0, x0) ?_ ?_ (by kernel_rfl) ?_
  · exact ⟨Nat.zero_le _, h0⟩
  · simp only [push_cast, seval, reduceCtorEq, hm0, subH_self]
  · rintro ⟨i, z⟩ ⟨hi, hI⟩
    dsimp only at hi hI ⊢
    rcases Nat.lt_or_ge i ss.length with hlt | hge
    · obtain ⟨y, hy⟩ : ∃ y, ss[i]? = some y := ⟨ss[i], List.getElem?_eq_getElem hlt⟩
      have hyi : ss[i] = y := (List.getElem?_eq_some_iff.1 hy).2
      rcases hla with hl0 | ⟨b, f', d, kd, cs, rfl, hfe, hat⟩
      · rw [hl0] at hy; simp at hy
      obtain ⟨a1, a2⟩ := hat i y hy
      have hfe' := fun z => find_left (B := Ho z) hfe
      have i1 : (i : Int) < (ss.length : Int) := by omega
      simp only [push_cast, seval, reduceCtorEq, h1', hfe', i1, hlt, a1, a2]
      intro b4 hb4
      refine YieldV.subX (H' := Hc ++ Ho z) (yl i z _ _ hlt (by rw [hyi]) hI (fun x' hx' => ?_) (fun x' hx' => ?_)) (subH_cons hb4) (by simp only [marksOf])
      · simp only [push_cast, seval, reduceCtorEq, wrap_i64' (show -9223372036854775808 ≤ (i : Int) + 1 ∧ (i : Int) + 1 ≤ 9223372036854775807 by omega)]
        exact ⟨(i + 1, x'), ⟨hlt, hx'⟩, by dsimp only; omega, ⟨rfl, subH_self _, by simp only [hmarks]⟩⟩
      · simp only [push_cast, seval, reduceCtorEq]
        exact yf x' (.inr hx')
    · obtain rfl : i = ss.length := by omega
      simp only [push_cast, seval, reduceCtorEq, h1', Nat.lt_irrefl]
      exact yf z (.inl (by rw [hvl]; exact hI))
end Go.Proofs.YtincedmdkdjakaaGreat
set_option linter.unusedSimpArgs false
set_option linter.unusedVariables false
namespace Go.Ev
theorem WpV.apart {P : Program} {r : Option Nat} {n : Nat} {c : Code} {K : Exit → Tm → Hp → Prop} {T : Tm} {H : Hp} (h : ApartE H → WpV P r n c K T H) : WpV P r n c K T H := fun w0 mu a w hr ht hs hd => h hs.apart w0 mu a w hr ht hs hd
theorem freshN_behind {A M N : Hp} (h : ApartE (A ++ (M ++ N))) (hw : allWr N) : freshN N M :=
  freshN_iff.2 fun e he x hx => (List.pairwise_append.1 (List.pairwise_append.1 h).2.1).2.2 x hx e he (.inr (allWr_mem hw e he))
theorem bS_view {s : List Ac} {v : Value} {H : Hp} (h : StR s v H) : ViR ⟨s, [], [], []⟩ (.agg #[v, .slice none 0 0, .slice none 0 0, .slice none 0 0]) H := ⟨_, _, _, _, rfl, h, LiR.nil H 0, LiR.nil H 0, LiR.nil H 0⟩
theorem fit_st {s : List Ac} (h1 : s.length ≤ 1000000000) (h2 : ∀ y ∈ s, y.slots.length ≤ 2000) : Vi.Fit ⟨s, [], [], []⟩ := ⟨h1, h2, Nat.zero_le _, Nat.zero_le _, Nat.zero_le _⟩
theorem fit_ri {s : List Ac} (h : RiS s) : Vi.Fit ⟨s, [], [], []⟩ := fit_st (by have := h.len; omega) fun y hy => by have := (mayA_slots (h.may y hy)).len; omega
end Go.Ev
namespace Go.Proofs.YtincedmdkdjakaaGreat
open Go Go.Ev Go.Proofs
set_option maxRecDepth 100000
set_option maxHeartbeats 4000000
def plMg : Plans := fun i => if i = 1 then [(0, 9)] else if i = 3 then [(0, 9)] else if i = 4 then [(0, 9)] else if i = 6 then [] else if i = 7 then [(0, 9)] else if i = 9 then [(0, 9)] else if i = 10 then [(0, 9)] else Tryz.pl19 i
attribute [push_cast] plMg
theorem vmerge_R {M : Hp} {s : List Ac} {sv : Value} {x : Vi} {v : Value} (hs : StR s sv M) (hv : ViR x v M) (hb : x.Fit) (hsn : s.length ≤ 1000000000) : CallsR Tryz.prog 19 [sv, v] M (UndR (mergeV s x)) := by
  intro M0 hr he
  have hm := hr.marks
  replace hv := ViR.rd _ _ _ _ he.symm hv
  replace hs := StR.rd _ _ _ _ he.symm hs
  have hv0 := hv
  obtain ⟨vb, vr, vw, vc, rfl, h1, h2, h3, h4⟩ := hv
  obtain ⟨ps, ks, rfl⟩ := hs.slice
  obtain ⟨pb, kb, rfl⟩ := h1.slice
  obtain ⟨pr, kr, rfl⟩ := LiR.slice h2
  obtain ⟨pw, kw, rfl⟩ := LiR.slice h3
  obtain ⟨pc, kc, rfl⟩ := LiR.slice h4
  refine callsO gU4_ok Tryz.mix plMg Tryz.func19 rfl Tryz.ntmps19 Tryz.results19 rfl (by first | rfl | assumption) (Nat.le_of_ble_eq_true rfl) (by kernel_rfl) ?_
  simp only [push_cast, seval, reduceCtorEq]
  intro b2 hb2 b3 hb3 b4 hb4 b5 hb5
  have f2 : fresh b2 M0 := hb2
  have f3 : fresh b3 M0 := hb3.2.2
  have f4 : fresh b4 M0 := hb4.2.2.2.2
  have f5 : fresh b5 M0 := hb5.2.2.2.2.2.2
  refine regO gU4_ok ?_
  simp only [push_cast, seval, reduceCtorEq, hb3, hb4, hb5]
  refine useP [_, _, _, _] (fun M1 hr1 he1 => sright_ok (StR.rd _ _ _ _ he1.symm hs) hr1.marks (by omega)) ⟨f5, f4, f3, f2, trivial⟩ ?_
  cases hrs : rightS s
  · rw [mergeV_bad fun h => by rw [rightS_iff.2 h.1] at hrs; cases hrs]
    simp only [push_cast, seval, reduceCtorEq, hb3, hb4, hb5]
    exact doneK2 [_, _, _, _] (.refl hm) (UndR.rd _) ⟨_, rfl, StR.nil _ 0⟩
  have hri := rightS_iff.1 hrs
  simp only [push_cast, seval, reduceCtorEq, hb3, hb4, hb5]
  refine useP [_, _, _, _] (vright_R hv0 hb) ⟨f5, f4, f3, f2, trivial⟩ ?_
  cases hrv : pB (RiV x)
  · rw [mergeV_bad fun h => pB_not.1 hrv h.2]
    simp only [push_cast, seval, reduceCtorEq, hb3, hb4, hb5]
    exact doneK2 [_, _, _, _] (.refl hm) (UndR.rd _) ⟨_, rfl, StR.nil _ 0⟩
  have hriv := pB_iff.1 hrv
  rw [mergeV_ok ⟨hri, hriv⟩]
  simp only [push_cast, seval, reduceCtorEq, hb3, hb4, hb5]
  refine regO gU4_ok ?_
  simp only [push_cast, seval, reduceCtorEq, hb3, hb4, hb5]
  refine useL [_, _, _, _] (vown_R (bS_view hs) (fit_ri hri)) (ViR.rd _) hm ⟨f5, f4, f3, f2, trivial⟩ fun u M1 hg1 hL1 hq => ?_
  obtain ⟨ub, ur, uw, uc, rfl, g1, g2, g3, g4⟩ := hq
  obtain ⟨qb, lb, rfl⟩ := StR.slice g1
  obtain ⟨qr, lr, rfl⟩ := LiR.slice g2
  obtain ⟨qw, lw, rfl⟩ := LiR.slice g3
  obtain ⟨qc, lc, rfl⟩ := LiR.slice g4
  simp only [push_cast, seval, reduceCtorEq, hb3, hb4, hb5]
  refine regO gU4_ok ?_
  simp only [push_cast, seval, reduceCtorEq, hb3, hb4, hb5]
  refine (valuesC_ok pc x.cells.length kc).use trivial ?_
  rintro _ _ ⟨d1, rfl, rfl⟩
  refine ⟨⟨trivial, trivial⟩, rfl, fun hfn => ?_⟩
  have fd1 := hfn.1
  simp only [push_cast, seval, reduceCtorEq] at fd1
  simp only [push_cast, seval, reduceCtorEq, hb3, hb4, hb5, fd1]
  obtain ⟨-, N0, rfl, hwN0, hmN0⟩ := hg1
  have sp2 := fresh_app_iff.1 hL1.2.2.2.1
  have sp3 := fresh_app_iff.1 hL1.2.2.1
  have sp4 := fresh_app_iff.1 hL1.2.1
  have sp5 := fresh_app_iff.1 hL1.1
  have spd := fresh_app_iff.1 fd1.2.2.2.2.2.2.2.2
  refine WpV.apart fun hapart => ?_
  have hN0M : freshN N0 M0 := freshN_behind (A := [_, _, _, _, _]) hapart hwN0
  refine WpV.perm (H' := ([⟨d1, 0, .cel 31, [.slice pc x.cells.length kc]⟩, ⟨b5, 0, .cel 47, [.int .i64 0]⟩, ⟨b4, 0, .cel 27, [.slice none 0 0]⟩, ⟨b3, 0, .cel 33, [.slice pb x.base.length kb, .slice pr x.reads.length kr, .slice pw x.writes.length kw, .slice pc x.cells.length kc]⟩, ⟨b2, 0, .cel 27, [.slice qb s.length lb]⟩] ++ N0) ++ M0) ?_ ?_ ?_
  · classical
    refine List.perm_iff_count.2 fun a => ?_
    simp only [List.count_append, List.count_cons, List.count_nil]
    omega
  · simp [marks_append, marksOf, hm, hmN0]
  refine WpV.dup (M := M0) hr (freshN_appL.2 ⟨⟨spd.1, sp5.1, sp4.1, sp3.1, sp2.1, trivial⟩, hN0M⟩) ?_
  refine WpV.perm (H' := (⟨d1, 0, .cel 31, [.slice pc x.cells.length kc]⟩ :: M0) ++ ((⟨b2, 0, .cel 27, [.slice qb s.length lb]⟩ :: ⟨b4, 0, .cel 27, [.slice none 0 0]⟩ :: ⟨b5, 0, .cel 47, [.int .i64 0]⟩ :: (M0 ++ N0)) ++ [⟨b3, 0, .cel 33, [.slice pb x.base.length kb, .slice pr x.reads.length kr, .slice pw x.writes.length kw, .slice pc x.cells.length kc]⟩])) ?_ ?_ ?_
  · classical
    refine List.perm_iff_count.2 fun a => ?_
    simp only [List.count_append, List.count_cons, List.count_nil]
    omega
  · simp [marksOf, marks_append, hm, hmN0]
  have hg1 : Gr M0 (M0 ++ N0) := ⟨hm, N0, rfl, hwN0, hmN0⟩
  have g2' : fresh b2 (M0 ++ N0) := hL1.2.2.2.1
  have g4' : fresh b4 (M0 ++ N0) := hL1.2.1
  have g5' : fresh b5 (M0 ++ N0) := hL1.1
  obtain ⟨R, hR⟩ : ∃ R, R = goM s x.cells := ⟨_, rfl⟩
  rw [← hR]
  have hit := ceIter (Hc := ⟨d1, 0, .cel 31, [.slice pc x.cells.length kc]⟩ :: M0) (ss := x.cells) (b1 := d1) (k1 := .cel 31) (LiR.app (N := [_]) h4 ⟨spd.1, trivial⟩) (by have := hb.c; omega) (by simpa [marksOf] using hm) (by simp [findE])
  refine rangeO gU4_ok (pl := plMg) Tryz.mix (Hc := ⟨d1, 0, .cel 31, [.slice pc x.cells.length kc]⟩ :: M0) (Hm := []) hit rfl
    (X := {y : (Value × Value × Int) × Hp // Gr M0 y.2 ∧ fresh b2 y.2 ∧ fresh b4 y.2 ∧ fresh b5 y.2}) (fun y => ⟨b2, 0, .cel 27, [y.1.1.1]⟩ :: ⟨b4, 0, .cel 27, [y.1.1.2.1]⟩ :: ⟨b5, 0, .cel 47, [.int .i64 y.1.1.2.2]⟩ :: y.1.2)
    (fun k y => y.1.1.2.1 = .slice none 0 0 ∧ y.1.1.2.2 = 0 ∧ ∃ t, StR t y.1.1.1 y.1.2 ∧ RiS t ∧ R = goM t (x.cells.drop k))
    (fun c y => c = .ret ∧ StR R.1 y.1.1.2.1 y.1.2 ∧ R.2 = y.1.1.2.2) ⟨((.slice qb s.length lb, .slice none 0 0, 0), M0 ++ N0), hg1, g2', g4', g5'⟩
    ?_ ?_ ?_ ?_ (by simp) (fun y => ?_) (fun y u e heu => ?_) ?_ (by kernel_rfl) (by kernel_rfl) ?_ ?_ ?_ ?_
  · exact ⟨rfl, rfl, s, g1, hri, by rw [List.drop_zero]; exact hR⟩
  · rw [← List.append_assoc]
    exact subH_front _ _
  · simp [marksOf, marks_append, hm, hmN0]
  · simpa [marksOf] using hm
  · simpa [marksOf] using y.2.1.marks
  · obtain ⟨-, N, hMN, hwN, -⟩ := u.2.1
    obtain ⟨-, N', hM', -, -⟩ := y.2.1
    rw [hMN] at heu
    rcases List.mem_cons.1 heu with rfl | heu
    · exact .inl trivial
    rcases List.mem_cons.1 heu with rfl | heu
    · exact .inl trivial
    rcases List.mem_cons.1 heu with rfl | heu
    · exact .inl trivial
    rcases List.mem_append.1 heu with heu | heu
    · exact .inr (by rw [hM']; simp [heu])
    · exact .inl (allWr_mem hwN e heu)
  · intro args ha
    obtain ⟨z, _, rfl⟩ := List.mem_map.1 ha
    rfl
  · rintro c y ⟨rfl, -⟩
    kernel_rfl
  · rintro lo k ⟨⟨⟨w, w4, e0⟩, M1⟩, hg1, g2, g4, g5⟩ args hk ⟨h40, he0, t, hw, hrt, hRt⟩
    dsimp only at h40 he0 hw hrt hRt g2 g4 g5 hg1 ⊢
    subst h40
    subst he0
    obtain ⟨c, hc, rfl⟩ := Option.map_eq_some_iff.1 ((List.getElem?_map ..).symm.trans hk)
    have hlt := (List.getElem?_eq_some_iff.1 hc).1
    have hdr : x.cells.drop k = c :: x.cells.drop (k + 1) := by rw [List.drop_eq_getElem_cons hlt, (List.getElem?_eq_some_iff.1 hc).2]
    rw [hdr, goM_cons] at hRt
    obtain ⟨pw, kw, rfl⟩ := hw.slice
    have hwn : t.length ≤ 1000000000 := by have := hrt.len; omega
    have hws : ∀ y ∈ t, y.slots.length ≤ 1000000000000 := fun y hy => by have := (mayA_slots (hrt.may y hy)).len; omega
    have hgm := hg1.marks
    obtain ⟨a, ha⟩ : ∃ a, a = findS t c.key.at_ := ⟨_, rfl⟩
    obtain ⟨a', e, hap⟩ : ∃ a' e, appC a c = (a', e) := ⟨_, _, rfl⟩
    rw [← ha, hap] at hRt
    dsimp only at hRt
    generalize hRK : (roundK _ _ _ k : Exit → Tm → Hp → Prop) = RK
    show oC _ _ _ _ _ _ _ (parT 48 _ _ [c.v]) _
    simp only [push_cast, seval, reduceCtorEq, hb3, hb4, hb5]
    intro b6 hb6
    refine ⟨hgm, roSub_of fun e he => .inr (by simp [he]), ?_⟩
    have g6 : fresh b6 M1 := hb6.2.2.2.2.2.2
    have hLX : freshN [⟨b6, 0, .cel 74, c.cells⟩, ⟨b2, 0, .cel 27, [.slice pw t.length kw]⟩, ⟨b4, 0, .cel 27, [.slice none 0 0]⟩, ⟨b5, 0, .cel 47, [.int .i64 0]⟩] M1 := ⟨g6, g2, g4, g5, trivial⟩
    have fB2 : findE (⟨b6, 0, .cel 74, c.cells⟩ :: ⟨b2, 0, .cel 27, [.slice pw t.length kw]⟩ :: ⟨b4, 0, .cel 27, [.slice none 0 0]⟩ :: ⟨b5, 0, .cel 47, [.int .i64 0]⟩ :: M1) b2 = some ⟨b2, 0, .cel 27, [.slice pw t.length kw]⟩ := by simp only [push_cast, seval, reduceCtorEq, hb6]
    have fB6 : findE (⟨b6, 0, .cel 74, c.cells⟩ :: ⟨b2, 0, .cel 27, [.slice pw t.length kw]⟩ :: ⟨b4, 0, .cel 27, [.slice none 0 0]⟩ :: ⟨b5, 0, .cel 47, [.int .i64 0]⟩ :: M1) b6 = some ⟨b6, 0, .cel 74, c.cells⟩ := by simp only [push_cast, seval, reduceCtorEq, hb6]
    refine drawS gU4_ok Tryz.mix [(2, .pointer (some ⟨b2, 0, none⟩)), (4, .pointer (some ⟨b4, 0, none⟩)), (5, .pointer (some ⟨b5, 0, none⟩)), (6, .pointer (some ⟨b6, 0, none⟩))]
        (fun i val => match i with
          | 0 => val 0 = .slice pw t.length kw
          | 1 => val 1 = .pointer (some ⟨b6, 0, none⟩)
          | 2 => val 2 = .pointer (some ⟨b6, 0, none⟩)
          | 3 => val 3 = c.key.at_.v
          | 4 => ∃ p k, val 4 = .agg (a.cells (Value.slice p a.slots.length k)).toArray
          | 5 => val 5 = c.v
          | 6 => ∃ p k, val 6 = .tuple #[.agg (a'.cells (Value.slice p a'.slots.length k)).toArray, .int .i64 e]
          | 7 => val 7 = val 6 ∧ ∃ p k, val 6 = .tuple #[.agg (a'.cells (Value.slice p a'.slots.length k)).toArray, .int .i64 e]
          | 8 => ∃ p k, val 8 = .agg (a'.cells (Value.slice p a'.slots.length k)).toArray ∧ val 7 = .tuple #[val 8, .int .i64 e]
          | 9 => val 9 = .int .i64 e
          | 10 => ∃ b, val 10 = .pointer (some ⟨b, 0, none⟩)
          | 12 => val 12 = .int .i64 e
          | _ => True)
        (fun i val N => match i with
          | 4 => allWr N ∧ marksOf N = [] ∧ AcR a (val 4) (N ++ M1)
          | 6 => allWr N ∧ marksOf N = [] ∧ ApR (a', e) (val 6) (N ++ M1)
          | 7 => N = []
          | 8 => N = []
          | 10 => ∃ b, val 10 = .pointer (some ⟨b, 0, none⟩) ∧ N = [⟨b, 0, .cel 53, Ac.zeroC⟩]
          | 11 => ∃ b p k, val 10 = .pointer (some ⟨b, 0, none⟩) ∧ val 8 = .agg (a'.cells (Value.slice p a'.slots.length k)).toArray ∧ N = [⟨b, 0, .cel 53, a'.cells (Value.slice p a'.slots.length k)⟩]
          | _ => N = []) (fun i => if i = 6 then [4] else if i = 11 then [10] else []) [6, 11] (by kernel_rfl) (by kernel_rfl) (by kernel_rfl) ?_ (by rfl) (by decide) (by kernel_rfl) ?_ ?_ ?_ ?_ ?_
    · simp only [push_cast, seval, reduceCtorEq, subT]
    · intro i hi hiF
      replace hi : i < 13 := hi
      obtain rfl | rfl | rfl | rfl | rfl | rfl | rfl | rfl | rfl | rfl | rfl | rfl | rfl : i = 0 ∨ i = 1 ∨ i = 2 ∨ i = 3 ∨ i = 4 ∨ i = 5 ∨ i = 6 ∨ i = 7 ∨ i = 8 ∨ i = 9 ∨ i = 10 ∨ i = 11 ∨ i = 12 := by omega
      all_goals first
        | exact .inl fun _ _ h => h
        | exact absurd (by decide) hiF
        | exact .inr (by kernel_rfl)
    · intro i o ho val val' h1 h2 hV
      have hi := (Array.getElem?_eq_some_iff.1 ho).1
      replace hi : i < 13 := hi
      obtain rfl | rfl | rfl | rfl | rfl | rfl | rfl | rfl | rfl | rfl | rfl | rfl | rfl : i = 0 ∨ i = 1 ∨ i = 2 ∨ i = 3 ∨ i = 4 ∨ i = 5 ∨ i = 6 ∨ i = 7 ∨ i = 8 ∨ i = 9 ∨ i = 10 ∨ i = 11 ∨ i = 12 := by omega
      · first
          | exact trivial
          | exact hV
          | exact h1.trans hV
          | (rw [h1]; exact hV)
      · first
          | exact trivial
          | exact hV
          | exact h1.trans hV
          | (rw [h1]; exact hV)
      · first
          | exact trivial
          | exact hV
          | exact h1.trans hV
          | (rw [h1]; exact hV)
      · first
          | exact trivial
          | exact hV
          | exact h1.trans hV
          | (rw [h1]; exact hV)
      · first
          | exact trivial
          | exact hV
          | exact h1.trans hV
          | (rw [h1]; exact hV)
      · first
          | exact trivial
          | exact hV
          | exact h1.trans hV
          | (rw [h1]; exact hV)
      · first
          | exact trivial
          | exact hV
          | exact h1.trans hV
          | (rw [h1]; exact hV)
      · simp only [List.getElem?_toArray, List.getElem?_cons_zero, List.getElem?_cons_succ, Option.some.injEq] at ho; subst ho
        have h5 := h2 6 (by kernel_rfl)
        obtain ⟨a1, p5, k5, a2⟩ := hV
        exact ⟨by rw [h1, h5]; exact a1, p5, k5, by rw [h5]; exact a2⟩
      · simp only [List.getElem?_toArray, List.getElem?_cons_zero, List.getElem?_cons_succ, Option.some.injEq] at ho; subst ho
        have h6 := h2 7 (by kernel_rfl)
        obtain ⟨p5, k5, a1, a2⟩ := hV
        exact ⟨p5, k5, by rw [h1]; exact a1, by rw [h6, h1]; exact a2⟩
      · first
          | exact trivial
          | exact hV
          | exact h1.trans hV
          | (rw [h1]; exact hV)
      · first
          | exact trivial
          | exact hV
          | exact h1.trans hV
          | (rw [h1]; exact hV)
      · first
          | exact trivial
          | exact hV
          | exact h1.trans hV
          | (rw [h1]; exact hV)
      · first
          | exact trivial
          | exact hV
          | exact h1.trans hV
          | (rw [h1]; exact hV)
    · intro i o ho val val' N h1 h2 hQ
      have hi := (Array.getElem?_eq_some_iff.1 ho).1
      replace hi : i < 13 := hi
      obtain rfl | rfl | rfl | rfl | rfl | rfl | rfl | rfl | rfl | rfl | rfl | rfl | rfl : i = 0 ∨ i = 1 ∨ i = 2 ∨ i = 3 ∨ i = 4 ∨ i = 5 ∨ i = 6 ∨ i = 7 ∨ i = 8 ∨ i = 9 ∨ i = 10 ∨ i = 11 ∨ i = 12 := by omega
      · first
          | exact trivial
          | exact hQ
          | exact h1.trans hQ
          | (rw [h1]; exact hQ)
      · first
          | exact trivial
          | exact hQ
          | exact h1.trans hQ
          | (rw [h1]; exact hQ)
      · first
          | exact trivial
          | exact hQ
          | exact h1.trans hQ
          | (rw [h1]; exact hQ)
      · first
          | exact trivial
          | exact hQ
          | exact h1.trans hQ
          | (rw [h1]; exact hQ)
      · first
          | exact trivial
          | exact hQ
          | exact h1.trans hQ
          | (rw [h1]; exact hQ)
      · first
          | exact trivial
          | exact hQ
          | exact h1.trans hQ
          | (rw [h1]; exact hQ)
      · first
          | exact trivial
          | exact hQ
          | exact h1.trans hQ
          | (rw [h1]; exact hQ)
      · first
          | exact trivial
          | exact hQ
          | exact h1.trans hQ
          | (rw [h1]; exact hQ)
      · first
          | exact trivial
          | exact hQ
          | exact h1.trans hQ
          | (rw [h1]; exact hQ)
      · first
          | exact trivial
          | exact hQ
          | exact h1.trans hQ
          | (rw [h1]; exact hQ)
      · first
          | exact trivial
          | exact hQ
          | exact h1.trans hQ
          | (rw [h1]; exact hQ)
      · simp only [List.getElem?_toArray, List.getElem?_cons_zero, List.getElem?_cons_succ, Option.some.injEq] at ho; subst ho
        have h10 := h2 10 (by kernel_rfl)
        have h7 := h2 8 (by kernel_rfl)
        obtain ⟨b, p, k, a1, a2, a3⟩ := hQ
        exact ⟨b, p, k, by rw [h10]; exact a1, by rw [h7]; exact a2, a3⟩
      · first
          | exact trivial
          | exact hQ
          | exact h1.trans hQ
          | (rw [h1]; exact hQ)
    · intro i o ho T' Y val mem hT hdep hus hfr hY hmY hapY
      have hi := (Array.getElem?_eq_some_iff.1 ho).1
      replace hi : i < 13 := hi
      have y2 := hY _ _ fB2
      have y6 := hY _ _ fB6
      have hM0Y : ∀ b e, findE M1 b = some e → findE Y b = some e := fun b e h => hY b e (find_behind hLX b e h)
      have t2 : getT T' 2 = some (.pointer (some ⟨b2, 0, none⟩)) := hT.1
      have t6 : getT T' 6 = some (.pointer (some ⟨b6, 0, none⟩)) := hT.2.2.2.1
      obtain rfl | rfl | rfl | rfl | rfl | rfl | rfl | rfl | rfl | rfl | rfl | rfl | rfl : i = 0 ∨ i = 1 ∨ i = 2 ∨ i = 3 ∨ i = 4 ∨ i = 5 ∨ i = 6 ∨ i = 7 ∨ i = 8 ∨ i = 9 ∨ i = 10 ∨ i = 11 ∨ i = 12 := by omega
      · simp only [List.getElem?_toArray, List.getElem?_cons_zero, List.getElem?_cons_succ, Option.some.injEq] at ho; subst ho
        simp only [push_cast, seval, reduceCtorEq, List.flatMap_nil, List.flatMap_cons, List.append_nil, List.nil_append, t2, y2]
        exact ⟨[], rfl, trivial, rfl, upd_self _ _ _, rfl⟩
      · simp only [List.getElem?_toArray, List.getElem?_cons_zero, List.getElem?_cons_succ, Option.some.injEq] at ho; subst ho
        simp only [push_cast, seval, reduceCtorEq, List.flatMap_nil, List.flatMap_cons, List.append_nil, List.nil_append, t6]
        exact ⟨[], rfl, trivial, rfl, upd_self _ _ _, rfl⟩
      · simp only [List.getElem?_toArray, List.getElem?_cons_zero, List.getElem?_cons_succ, Option.some.injEq] at ho; subst ho
        obtain ⟨v1, g1⟩ := hdep 1 (by kernel_rfl)
        replace g1 := g1 27 rfl
        rw [show val 1 = _ from v1] at g1
        simp only [push_cast, seval, reduceCtorEq, List.flatMap_nil, List.flatMap_cons, List.append_nil, List.nil_append, g1]
        exact ⟨[], rfl, trivial, rfl, upd_self _ _ _, rfl⟩
      · simp only [List.getElem?_toArray, List.getElem?_cons_zero, List.getElem?_cons_succ, Option.some.injEq] at ho; subst ho
        obtain ⟨v2, g2⟩ := hdep 2 (by kernel_rfl)
        replace g2 := g2 28 rfl
        rw [show val 2 = _ from v2] at g2
        simp only [push_cast, seval, reduceCtorEq, List.flatMap_nil, List.flatMap_cons, List.append_nil, List.nil_append, g2, y6]
        exact ⟨[], rfl, trivial, rfl, upd_self _ _ _, rfl⟩
      · simp only [List.getElem?_toArray, List.getElem?_cons_zero, List.getElem?_cons_succ, Option.some.injEq] at ho; subst ho
        obtain ⟨v0, g0⟩ := hdep 0 (by kernel_rfl)
        replace g0 := g0 26 rfl
        rw [show val 0 = _ from v0] at g0
        obtain ⟨v3, g3⟩ := hdep 3 (by kernel_rfl)
        replace g3 := g3 29 rfl
        rw [show val 3 = _ from v3] at g3
        simp only [push_cast, seval, reduceCtorEq, List.flatMap_nil, List.flatMap_cons, List.append_nil, List.nil_append, g0, g3]
        refine callS (M := M1) (by have := sfind_ok (a := c.key.at_) hw hwn hws; rw [← ha] at this; exact this) (AcR.rd _) hM0Y fun w N hw hm1 hf hq => ⟨N, rfl, hw, hm1, ?_, ?_⟩
        · obtain ⟨sv, rfl, hsv⟩ := hq
          obtain ⟨p1, k1, rfl⟩ := hsv.slice
          exact ⟨p1, k1, by rw [upd_self]⟩
        · rw [upd_self]; exact ⟨hw, hm1, hq⟩
      · simp only [List.getElem?_toArray, List.getElem?_cons_zero, List.getElem?_cons_succ, Option.some.injEq] at ho; subst ho
        simp only [push_cast, seval, reduceCtorEq, List.flatMap_nil, List.flatMap_cons, List.append_nil, List.nil_append, t6, y6]
        exact ⟨[], rfl, trivial, rfl, upd_self _ _ _, rfl⟩
      · simp only [List.getElem?_toArray, List.getElem?_cons_zero, List.getElem?_cons_succ, Option.some.injEq] at ho; subst ho
        obtain ⟨v4, g4⟩ := hdep 4 (by kernel_rfl)
        replace g4 := g4 30 rfl
        obtain ⟨v5, g5⟩ := hdep 5 (by kernel_rfl)
        replace g5 := g5 31 rfl
        rw [show val 5 = _ from v5] at g5
        obtain ⟨p3, k3, v4⟩ := v4
        obtain ⟨w3, m3, sv3, hq3a, hq3⟩ := hus 4 (List.mem_singleton.2 rfl)
        have v4 : val 4 = _ := v4
        have hq3a : val 4 = _ := hq3a
        rw [hq3a] at v4
        have hsv3 : sv3 = Value.slice p3 a.slots.length k3 := Ac.cells_sv (by injection v4 with h; simpa using congrArg Array.toList h)
        subst hsv3
        rw [hq3a] at g4
        have fr3 : freshN (mem 4) Y := by simpa using hfr
        simp only [push_cast, seval, reduceCtorEq, List.flatMap_nil, List.flatMap_cons, List.append_nil, List.nil_append, g4, g5]
        refine callS (M := mem 4 ++ M1) (by have := apply_R (c := c) hq3; rw [hap] at this; exact this) (ApR.rd _) (find_front hM0Y) fun w N hw hm1 hf hq => ⟨N ++ mem 4, by rw [List.append_assoc], allWr_app hw w3, by rw [marks_append, hm1, m3]; rfl, ?_, ?_⟩
        · obtain ⟨sv, rfl, hsv⟩ := hq
          obtain ⟨p1, k1, rfl⟩ := hsv.slice
          exact ⟨p1, k1, by rw [upd_self]⟩
        · rw [upd_self]
          refine ⟨allWr_app hw w3, by rw [marks_append, hm1, m3]; rfl, ?_⟩
          rw [List.append_assoc]; exact hq
      · simp only [List.getElem?_toArray, List.getElem?_cons_zero, List.getElem?_cons_succ, Option.some.injEq] at ho; subst ho
        obtain ⟨v6, g6⟩ := hdep 6 (by kernel_rfl)
        replace g6 := g6 32 rfl
        simp only [push_cast, seval, reduceCtorEq, List.flatMap_nil, List.flatMap_cons, List.append_nil, List.nil_append, g6]
        obtain ⟨p5, k5, v6⟩ := v6
        refine ⟨[], rfl, trivial, rfl, ⟨?_, p5, k5, ?_⟩, rfl⟩
        · simp [upd]
        · simpa [upd] using v6
      · simp only [List.getElem?_toArray, List.getElem?_cons_zero, List.getElem?_cons_succ, Option.some.injEq] at ho; subst ho
        obtain ⟨v7, g7⟩ := hdep 7 (by kernel_rfl)
        replace g7 := g7 25 rfl
        obtain ⟨v7, p5, k5, v6⟩ := v7
        have v7 : val 7 = _ := v7
        rw [v7, v6] at g7
        simp only [push_cast, seval, reduceCtorEq, List.flatMap_nil, List.flatMap_cons, List.append_nil, List.nil_append, g7]
        refine ⟨[], rfl, trivial, rfl, ⟨p5, k5, ?_, ?_⟩, rfl⟩
        · simp [upd]
        · simp [upd, v7, v6]
      · simp only [List.getElem?_toArray, List.getElem?_cons_zero, List.getElem?_cons_succ, Option.some.injEq] at ho; subst ho
        obtain ⟨v7, g7⟩ := hdep 7 (by kernel_rfl)
        replace g7 := g7 25 rfl
        obtain ⟨v7, p5, k5, v6⟩ := v7
        have v7 : val 7 = _ := v7
        rw [v7, v6] at g7
        simp only [push_cast, seval, reduceCtorEq, List.flatMap_nil, List.flatMap_cons, List.append_nil, List.nil_append, g7]
        exact ⟨[], rfl, trivial, rfl, upd_self _ _ _, rfl⟩
      · simp only [List.getElem?_toArray, List.getElem?_cons_zero, List.getElem?_cons_succ, Option.some.injEq] at ho; subst ho
        simp only [push_cast, seval, reduceCtorEq, List.flatMap_nil, List.flatMap_cons, List.append_nil, List.nil_append]
        intro b hf
        exact ⟨[_], rfl, ⟨trivial, trivial⟩, rfl, ⟨b, upd_self _ _ _⟩, b, upd_self _ _ _, rfl⟩
      · simp only [List.getElem?_toArray, List.getElem?_cons_zero, List.getElem?_cons_succ, Option.some.injEq] at ho; subst ho
        obtain ⟨v8, g8⟩ := hdep 8 (by kernel_rfl)
        replace g8 := g8 33 rfl
        obtain ⟨v10, g10⟩ := hdep 10 (by kernel_rfl)
        replace g10 := g10 7 rfl
        obtain ⟨p7, k7, v8, -⟩ := v8
        have v8 : val 8 = _ := v8
        rw [v8] at g8
        obtain ⟨b10, v10, hN⟩ := hus 10 (List.mem_singleton.2 rfl)
        have v10 : val 10 = _ := v10
        rw [v10] at g10
        simp only [push_cast, seval, reduceCtorEq, List.flatMap_nil, List.flatMap_cons, List.append_nil, List.nil_append, g8, g10, hN, List.cons_append, Ac.zeroC]
        refine ⟨[_], rfl, ⟨trivial, trivial⟩, rfl, b10, p7, k7, ?_, ?_, rfl⟩
        · simp [upd, v10]
        · simp [upd, v8]
      · simp only [List.getElem?_toArray, List.getElem?_cons_zero, List.getElem?_cons_succ, Option.some.injEq] at ho; subst ho
        obtain ⟨v9, g9⟩ := hdep 9 (by kernel_rfl)
        replace g9 := g9 34 rfl
        rw [show val 9 = _ from v9] at g9
        simp only [push_cast, seval, reduceCtorEq, List.flatMap_nil, List.flatMap_cons, List.append_nil, List.nil_append, g9]
        exact ⟨[], rfl, trivial, rfl, upd_self _ _ _, rfl⟩
    · intro val mem hV hQ hap hwr
      obtain ⟨p5, k5, v6⟩ := hV 6 (by decide)
      obtain ⟨w5, m5, sv5, hq5a, hq5⟩ := hQ 6 (by decide)
      obtain ⟨b7, p7, k7, v10, v8, hN11⟩ := hQ 11 (by decide)
      obtain ⟨h6, -⟩ := hV 7 (by decide)
      obtain ⟨-, -, -, h76⟩ := hV 8 (by decide)
      have v9 : val 9 = .int .i64 e := hV 9 (by decide)
      have v12 : val 12 = .int .i64 e := hV 12 (by decide)
      have v10 : val 10 = _ := v10
      have v8 : val 8 = _ := v8
      have hq5a : val 6 = _ := hq5a
      have h6 : val 7 = val 6 := h6
      have h76 : val 7 = .tuple #[val 8, .int .i64 e] := h76
      rw [h6, hq5a, v8] at h76
      have hs5 : sv5 = Value.slice p7 a'.slots.length k7 := Ac.cells_sv (by injection h76 with h; have h1 := congrArg Array.toList h; simp only [List.cons.injEq, Value.agg.injEq] at h1; simpa using congrArg Array.toList h1.1)
      subst hs5
      have hMM : List.flatMap mem [6, 11] ++ (⟨b6, 0, .cel 74, c.cells⟩ :: ⟨b2, 0, .cel 27, [.slice pw t.length kw]⟩ :: ⟨b4, 0, .cel 27, [.slice none 0 0]⟩ :: ⟨b5, 0, .cel 47, [.int .i64 0]⟩ :: M1) = mem 6 ++ (⟨b7, 0, .cel 53, a'.cells (Value.slice p7 a'.slots.length k7)⟩ :: ⟨b6, 0, .cel 74, c.cells⟩ :: ⟨b2, 0, .cel 27, [.slice pw t.length kw]⟩ :: ⟨b4, 0, .cel 27, [.slice none 0 0]⟩ :: ⟨b5, 0, .cel 47, [.int .i64 0]⟩ :: M1) := by
        simp only [List.flatMap_cons, List.flatMap_nil, List.append_nil, hN11, List.append_assoc, List.cons_append, List.nil_append]
      rw [hMM] at hap ⊢
      have a5 := freshN_apart hap w5
      have hap' := (List.pairwise_append.1 hap).2.1
      have a7 := freshN_apart (A := [⟨b7, 0, .cel 53, a'.cells (Value.slice p7 a'.slots.length k7)⟩]) hap' ⟨trivial, trivial⟩
      have q57 := freshN_sym a5
      have hb7 := a7.1
      simp only [push_cast, seval, reduceCtorEq] at hb7
      have f70 : fresh b7 (M1 ++ mem 6) := fresh_app_iff.2 ⟨hb7.2.2.2.2.2.2.2.2, q57.1⟩
      have f60 : fresh b6 (M1 ++ mem 6) := fresh_app_iff.2 ⟨g6, q57.2.1⟩
      have f20 : fresh b2 (M1 ++ mem 6) := fresh_app_iff.2 ⟨g2, q57.2.2.1⟩
      have f40 : fresh b4 (M1 ++ mem 6) := fresh_app_iff.2 ⟨g4, q57.2.2.2.1⟩
      have f50 : fresh b5 (M1 ++ mem 6) := fresh_app_iff.2 ⟨g5, q57.2.2.2.2.1⟩
      have hg2 : Gr M1 (M1 ++ mem 6) := ⟨hgm, mem 6, rfl, w5, m5⟩
      have hl5 : LiR Sl.cells 8 (M1 ++ mem 6) a'.slots (Value.slice p7 a'.slots.length k7) := hq5.congr (cellsAt_swap (freshN_cons (freshN_cons (freshN_cons (freshN_cons (freshN_cons a5))))))
      simp only [push_cast, seval, reduceCtorEq, v8, v9, v10, v12]
      refine WpV.perm (H' := ⟨b7, 0, .cel 53, a'.cells (Value.slice p7 a'.slots.length k7)⟩ :: ⟨b6, 0, .cel 74, c.cells⟩ :: ⟨b2, 0, .cel 27, [.slice pw t.length kw]⟩ :: ⟨b4, 0, .cel 27, [.slice none 0 0]⟩ :: ⟨b5, 0, .cel 47, [.int .i64 0]⟩ :: (M1 ++ mem 6)) ?_ ?_ ?_
      · exact List.perm_append_comm
      · simp [marks_append, marksOf, m5, hgm]
      refine WpV.slots [(2, .pointer (some ⟨b2, 0, none⟩)), (4, .pointer (some ⟨b4, 0, none⟩)), (5, .pointer (some ⟨b5, 0, none⟩)), (7, .pointer (some ⟨b7, 0, none⟩)), (8, .int .i64 e)] (by simp only [push_cast, seval, reduceCtorEq]) ?_
      generalize M1 ++ mem 6 = M2 at hg2 hl5 f70 f60 f20 f40 f50 ⊢
      have hw2 : StR t (.slice pw t.length kw) M2 := hw.ext hg2.ext
      have x7 : ∀ (e2 e4 e5 : Ent) (H : Hp), e2.blk = b2 → e4.blk = b4 → e5.blk = b5 → fresh b7 H → fresh b7 (e2 :: e4 :: e5 :: H) := fun e2 e4 e5 H h2 h4 h5 hh => ⟨h2 ▸ hb7.2.2.1, h2 ▸ hb7.2.2.2.1, h4 ▸ hb7.2.2.2.2.1, h4 ▸ hb7.2.2.2.2.2.1, h5 ▸ hb7.2.2.2.2.2.2.1, h5 ▸ hb7.2.2.2.2.2.2.2.1, hh⟩
      have x6 : ∀ (e2 e4 e5 : Ent) (H : Hp), e2.blk = b2 → e4.blk = b4 → e5.blk = b5 → fresh b6 H → fresh b6 (e2 :: e4 :: e5 :: H) := fun e2 e4 e5 H h2 h4 h5 hh => ⟨h2 ▸ hb6.1, h2 ▸ hb6.2.1, h4 ▸ hb6.2.2.1, h4 ▸ hb6.2.2.2.1, h5 ▸ hb6.2.2.2.2.1, h5 ▸ hb6.2.2.2.2.2.1, hh⟩
      refine regO gU4_ok ?_
      by_cases hz0 : e = 0
      case neg =>
        have hz1 : (e != 0) = true := bne_iff_ne.2 hz0
        rw [if_neg hz0] at hRt
        simp only [push_cast, seval, reduceCtorEq, hz1, hb3, hb4, hb5, hb6, hb7]
        rw [← hRK]
        exact ⟨⟨((.slice pw t.length kw, .slice none 0 0, e), M2), hg1.trans hg2, f20, f40, f50⟩, ⟨rfl, by rw [hRt]; exact StR.nil _ 0, by rw [hRt]⟩, subH_drop (x7 _ _ _ _ rfl rfl rfl f70) (subH_drop (x6 _ _ _ _ rfl rfl rfl f60) (subH_self _))⟩
      have hz1 : (e != 0) = false := by rw [hz0]; rfl
      rw [if_pos hz0] at hRt
      simp only [push_cast, seval, reduceCtorEq, hz1, hb3, hb4, hb5, hb6, hb7]
      refine regO gU4_ok ?_
      simp only [push_cast, seval, reduceCtorEq, hb3, hb4, hb5, hb6, hb7]
      refine useB [_, _, _, _, _] (sset_ok (x := a') hw2 hl5 hwn) (SetO.rd _ _) hg2.marks ⟨f70, f60, f20, f40, f50, trivial⟩ fun w N9 M9 hg9 hf9 hL9 hw9 hm9 hq9 => ?_
      obtain ⟨w9, rfl, hst9⟩ := hq9
      obtain ⟨p9, k9, rfl⟩ : ∃ p k, w9 = .slice p (setS t a').1.length k := (hst9.r hf9).slice
      have hg19 := hg1.trans (hg2.trans hg9)
      have sw : ∀ {b}, fresh b (N9 ++ M9) → fresh b (M9 ++ N9) := fun h => fresh_appS (fresh_app_iff.1 h).2 (fresh_app_iff.1 h).1
      have hg20 : Gr M0 (M9 ++ N9) := hg19.trans ⟨hg9.marks, N9, rfl, hw9, hm9⟩
      have htn := subH_turn (N := N9) (M := M9) fun e he x hx h => freshN_iff.1 hf9 x hx e he h
      simp only [push_cast, seval, reduceCtorEq, hb3, hb4, hb5, hb6, hb7]
      refine regO gU4_ok ?_
      by_cases hz : (setS t a').2 = 0
      · have hz2 : ((setS t a').2 != 0) = false := by rw [hz]; rfl
        rw [if_pos hz] at hRt
        have hso := setS_ok.1 hz
        have hrn : RiS (setS t a').1 := by rw [setS_val hz]; exact hrt.put hso.2.1 hso.2.2
        simp only [push_cast, seval, reduceCtorEq, hz2, hb3, hb4, hb5, hb6, hb7]
        rw [← hRK]
        exact ⟨⟨((.slice p9 (setS t a').1.length k9, .slice none 0 0, 0), M9 ++ N9), hg20, sw hL9.2.2.1, sw hL9.2.2.2.1, sw hL9.2.2.2.2.1⟩, ⟨rfl, rfl, _, StR.rd _ _ _ _ (cellsAt_swap hf9) (hst9.r hf9), hrn, hRt⟩, subH_drop (x7 _ _ _ _ rfl rfl rfl (sw hL9.1)) (subH_drop (x6 _ _ _ _ rfl rfl rfl (sw hL9.2.1)) (subH_pre htn [_, _, _]))⟩
      · have hz2 : ((setS t a').2 != 0) = true := bne_iff_ne.2 hz
        rw [if_neg hz] at hRt
        obtain ⟨e9, he9⟩ : ∃ e, e = (setS t a').2 := ⟨_, rfl⟩
        rw [← he9] at hRt hz2 ⊢
        simp only [push_cast, seval, reduceCtorEq, hz2, hb3, hb4, hb5, hb6, hb7]
        rw [← hRK]
        exact ⟨⟨((.slice p9 (setS t a').1.length k9, .slice none 0 0, e9), M9 ++ N9), hg20, sw hL9.2.2.1, sw hL9.2.2.2.1, sw hL9.2.2.2.2.1⟩, ⟨rfl, by rw [hRt]; exact StR.nil _ 0, by rw [hRt]⟩, subH_drop (x7 _ _ _ _ rfl rfl rfl (sw hL9.1)) (subH_drop (x6 _ _ _ _ rfl rfl rfl (sw hL9.2.1)) (subH_pre htn [_, _, _]))⟩
  · rintro D y hfD ⟨h40, he0, t, hw, hrt, hRt⟩
    rw [List.length_map, List.drop_length] at hRt
    obtain ⟨pw, kw, hx⟩ := hw.slice
    rw [h40, he0, hx] at hfD ⊢
    have hbD : ¬ D = b2 ∧ ¬ b2 = D ∧ ¬ D = b4 ∧ ¬ b4 = D ∧ ¬ D = b5 ∧ ¬ b5 = D ∧ fresh D y.1.2 := hfD
    simp only [push_cast, seval, reduceCtorEq, hb3, hb4, hb5, hbD]
    rw [goM] at hRt
    exact doneK2 [_, _, _] y.2.1 (UndR.rd _) ⟨_, by rw [hRt], by rw [hRt]; exact hx ▸ hw⟩
  · rintro D c y hfD ⟨rfl, hw, he⟩
    obtain ⟨pw, kw, hx⟩ := hw.slice
    rw [hx] at hfD ⊢
    have hbD : ¬ D = b2 ∧ ¬ b2 = D ∧ ¬ D = b4 ∧ ¬ b4 = D ∧ ¬ D = b5 ∧ ¬ b5 = D ∧ fresh D y.1.2 := hfD
    simp only [push_cast, seval, reduceCtorEq, hb3, hb4, hb5, hbD]
    exact doneK2 [_, _, _] y.2.1 (UndR.rd _) ⟨_, by rw [he], hx ▸ hw⟩
end Go.Proofs.YtincedmdkdjakaaGreat
set_option linter.unusedSimpArgs false
set_option linter.unusedVariables false
namespace Go.Proofs.YtincedmdkdjakaaGreat
open Go Go.Ev Go.Proofs
set_option maxRecDepth 100000
set_option maxHeartbeats 4000000
end Go.Proofs.YtincedmdkdjakaaGreat
