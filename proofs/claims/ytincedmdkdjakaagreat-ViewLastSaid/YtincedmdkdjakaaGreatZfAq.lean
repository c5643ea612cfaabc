/- Texts of this claim, merged by program: Bj Bk Bl Bm Ye Bo. -/
import Derived.Test.YtincedmdkdjakaaGreatZfAp
import Derived.Test.YtincedmdkdjakaaGreatZfAl
set_option linter.unusedSimpArgs false
set_option linter.unusedVariables false
namespace Go.Proofs.YtincedmdkdjakaaGreat
open Go Go.Ev Go.Proofs
set_option maxRecDepth 100000
set_option maxHeartbeats 4000000
def plLP : Plans := fun i => if i = 1 then [(0, 9)] else if i = 2 then [(0, 9)] else if i = 3 then [(0, 0), (1, 0), (2, 0), (3, 0), (4, 0), (5, 0), (6, 0), (7, 0), (8, 0), (9, 2), (10, 0), (11, 0), (12, 0), (13, 1)] else if i = 4 then [(0, 0), (1, 0), (2, 0), (3, 0), (4, 0), (5, 0), (6, 0), (7, 0), (8, 0), (9, 0), (10, 0), (11, 2), (12, 0), (13, 0), (14, 0), (15, 1)] else Tryz.pl40 i
attribute [push_cast] plLP
theorem lawput_R {M : Hp} {x : Vi} {v : Value} {K : Ky} {r : R4} (hv : ViR x v M) (hb : x.Fit) (hmK : mayKy K) (hin : r.In) : CallsR Tryz.prog 40 [v, K.v, r.v] M (ViR (putV x (cellR K r.c r.d)).1) := by
  intro M0 hr he
  have hm := hr.marks
  replace hv := ViR.rd _ _ _ _ he.symm hv
  have hv0 := hv
  obtain ⟨vb, vr, vw, vc, rfl, h1, h2, h3, h4⟩ := hv
  obtain ⟨pb, kb, rfl⟩ := h1.slice
  obtain ⟨pr, kr, rfl⟩ := LiR.slice h2
  obtain ⟨pw, kw, rfl⟩ := LiR.slice h3
  obtain ⟨pc, kc, rfl⟩ := LiR.slice h4
  obtain ⟨a, b, c, d⟩ := r
  obtain ⟨ia, ib, ic, id⟩ := hin
  dsimp only at ia ib ic id ⊢
  have j2 : i64In 2 := by decide
  have j3 : i64In 3 := by decide
  have j4 : i64In 4 := by decide
  have p3 := pickN_lt c (show (0 : Int) < 3 by decide)
  have p4 := pickN_lt c (show (0 : Int) < 4 by decide)
  have p2 := pickN_lt d (show (0 : Int) < 2 by decide)
  show CallsV Tryz.prog _ [_, _, .agg #[.int .i64 a, .int .i64 b, .int .i64 c, .int .i64 d]] _ _
  refine callsO gB2_ok Tryz.mix plLP Tryz.func40 rfl Tryz.ntmps40 Tryz.results40 rfl (by first | rfl | assumption) (Nat.le_of_ble_eq_true rfl) (by kernel_rfl) ?_
  simp only [push_cast, seval, reduceCtorEq]
  intro b3 hb3 b4 hb4 b5 hb5 b6 hb6
  have f3 : fresh b3 M0 := hb3
  have f4 : fresh b4 M0 := hb4.2.2
  have f5 : fresh b5 M0 := hb5.2.2.2.2
  have f6 : fresh b6 M0 := hb6.2.2.2.2.2.2
  refine regO gB2_ok ?_
  simp only [push_cast, seval, reduceCtorEq, hb4, hb5, hb6]
  intro b7 hb7
  have f7 : fresh b7 M0 := hb7.2.2.2.2.2.2.2.2
  refine regO gB2_ok ?_
  cases hs : K.slot
  · have hcr : cellR K c d = Ce.ac ⟨K.at_, false, W.zero⟩ (W.ofInt (pickN c 4 : Nat)) (pickN d 2 : Nat) .empty := by
      unfold cellR
      rw [if_neg (by rw [hs]; decide), show K = ⟨K.at_, false, W.zero⟩ from Ky.ext rfl hs (hmK.resolve_left (by rw [hs]; decide))]
    rw [hcr]
    obtain ⟨w, hw⟩ : ∃ w, W.ofInt (pickN c 4 : Nat) = w := ⟨_, rfl⟩
    have k1 : -9223372036854775808 ≤ ((pickN c 4 : Nat) : Int) ∧ ((pickN c 4 : Nat) : Int) ≤ 9223372036854775807 := by omega
    rw [hw]
    have eo : K.at_.cells ++ (w.cells ++ [.int .i64 (pickN d 2 : Nat), .string .empty, .slice none 0 0]) = (⟨K.at_, w, (pickN d 2 : Nat), .empty, []⟩ : Ac).cells (.slice none 0 0) := rfl
    simp only [push_cast, seval, reduceCtorEq, hb4, hb5, hb6, hb7, hs, ic, id, j2, j4, k1.1, k1.2, hw, Ad.k1, Ad.k5, Ad.k6, Ad.k7, Ad.k8, Ad.k9, eo]
    refine useL [_, _, _, _, _] (vsetacc_R (a := ⟨K.at_, w, (pickN d 2 : Nat), .empty, []⟩) (p := none) (n := 0) (k := 0) hv0 hb) (VeR.rd _) hm ⟨f7, f6, f5, f4, f3, trivial⟩ fun u M1 hg1 hL1 hq1 => ?_
    obtain ⟨u, rfl, hu⟩ := hq1
    have hu0 := hu
    obtain ⟨ub, ur, uw, uc, rfl, g1, g2, g3, g4⟩ := hu
    obtain ⟨qb, lb, rfl⟩ := StR.slice g1
    obtain ⟨qr, lr, rfl⟩ := LiR.slice g2
    obtain ⟨qw, lw, rfl⟩ := LiR.slice g3
    obtain ⟨qc, lc, rfl⟩ := LiR.slice g4
    simp only [push_cast, seval, reduceCtorEq, hb4, hb5, hb6, hb7]
    refine ⟨subH_gr (N := []) trivial hg1, ?_⟩
    exact doneK2 [_, _, _, _, _] hg1 (ViR.rd _) hu0
  · have hcr : cellR K c d = Ce.sv ⟨K.at_, true, K.key⟩ (W.ofInt (pickN c 3 : Nat)) := by
      unfold cellR
      rw [if_pos hs]
      congr 1
      exact Ky.ext rfl hs rfl
    rw [hcr]
    obtain ⟨w, hw⟩ : ∃ w, W.ofInt (pickN c 3 : Nat) = w := ⟨_, rfl⟩
    have k1 : -9223372036854775808 ≤ ((pickN c 3 : Nat) : Int) ∧ ((pickN c 3 : Nat) : Int) ≤ 9223372036854775807 := by omega
    rw [hw]
    simp only [push_cast, seval, reduceCtorEq, hb4, hb5, hb6, hb7, hs, ic, id, j3, k1.1, k1.2, hw]
    refine useL [_, _, _, _, _] (vsetslot_R (a := K.at_) (q := K.key) (w := w) hv0 hb) (VeR.rd _) hm ⟨f7, f6, f5, f4, f3, trivial⟩ fun u M1 hg1 hL1 hq1 => ?_
    obtain ⟨u, rfl, hu⟩ := hq1
    have hu0 := hu
    obtain ⟨ub, ur, uw, uc, rfl, g1, g2, g3, g4⟩ := hu
    obtain ⟨qb, lb, rfl⟩ := StR.slice g1
    obtain ⟨qr, lr, rfl⟩ := LiR.slice g2
    obtain ⟨qw, lw, rfl⟩ := LiR.slice g3
    obtain ⟨qc, lc, rfl⟩ := LiR.slice g4
    simp only [push_cast, seval, reduceCtorEq, hb4, hb5, hb6, hb7]
    refine ⟨subH_gr (N := []) trivial hg1, ?_⟩
    exact doneK2 [_, _, _, _, _] hg1 (ViR.rd _) hu0
end Go.Proofs.YtincedmdkdjakaaGreat
set_option linter.unusedSimpArgs false
set_option linter.unusedVariables false
namespace Go.Ev
end Go.Ev
namespace Go.Proofs.YtincedmdkdjakaaGreat
open Go Go.Ev Go.Proofs
set_option maxRecDepth 100000
set_option maxHeartbeats 1000000
end Go.Proofs.YtincedmdkdjakaaGreat
set_option linter.unusedSimpArgs false
set_option linter.unusedVariables false
namespace Go.Ev
end Go.Ev
namespace Go.Proofs.YtincedmdkdjakaaGreat
open Go Go.Ev Go.Proofs
set_option maxRecDepth 100000
set_option maxHeartbeats 4000000
end Go.Proofs.YtincedmdkdjakaaGreat
set_option linter.unusedSimpArgs false
set_option linter.unusedVariables false
namespace Go.Proofs.YtincedmdkdjakaaGreat
open Go Go.Ev Go.Proofs
set_option maxRecDepth 100000
set_option maxHeartbeats 4000000
end Go.Proofs.YtincedmdkdjakaaGreat
set_option linter.unusedSimpArgs false
set_option linter.unusedVariables false
namespace Go.Ev
noncomputable def insCs (l m : List Ce) : List Ce := m.foldl (fun q c => insC c q) l
theorem insCs_srt : ∀ {m l : List Ce}, (l.Pairwise fun x y => x.key.lt y.key) → (insCs l m).Pairwise fun x y => x.key.lt y.key
  | [], _, h => h
  | c :: m, l, h => by
    show (insCs (insC c l) m).Pairwise _
    exact insCs_srt (insC_srt h)
def lastOf (m : List Ce) (k : Ky) : Option Ce := m.foldl (fun o c => if c.key = k then some c else o) none
theorem lastOf_from (k : Ky) : ∀ (m : List Ce) (o : Option Ce), m.foldl (fun o c => if c.key = k then some c else o) o = (lastOf m k).or o
  | [], o => by simp [lastOf]
  | c :: m, o => by
    unfold lastOf
    rw [List.foldl_cons, List.foldl_cons, lastOf_from k m, lastOf_from k m (if c.key = k then some c else none)]
    by_cases h : c.key = k
    · simp only [if_pos h]
      cases lastOf m k <;> rfl
    · simp only [if_neg h]
      cases lastOf m k <;> rfl
theorem lastOf_cons (c : Ce) (m : List Ce) (k : Ky) : lastOf (c :: m) k = (lastOf m k).or (if c.key = k then some c else none) := lastOf_from k m _
theorem insCs_cell (k : Ky) : ∀ {m l : List Ce}, (l.Pairwise fun x y => x.key.lt y.key) → cellOf (insCs l m) k = (lastOf m k).or (cellOf l k)
  | [], _, _ => by simp [lastOf, insCs]
  | c :: m, l, h => by
    show cellOf (insCs (insC c l) m) k = _
    rw [insCs_cell k (insC_srt h), cellOf_ins h, lastOf_cons]
    by_cases hk : c.key = k
    · simp only [if_pos hk]
      cases lastOf m k <;> rfl
    · simp only [if_neg hk]
      cases lastOf m k <;> rfl
theorem lastOf_some {k : Ky} : ∀ {m : List Ce} {c : Ce}, lastOf m k = some c → c ∈ m ∧ c.key = k
  | [], c, h => by simp [lastOf] at h
  | x :: m, c, h => by
    unfold lastOf at h
    rw [List.foldl_cons, lastOf_from] at h
    cases hm : lastOf m k with
    | some y =>
      rw [hm] at h
      obtain rfl : y = c := Option.some.inj h
      have := lastOf_some hm
      exact ⟨List.mem_cons_of_mem _ this.1, this.2⟩
    | none =>
      rw [hm] at h
      by_cases hx : x.key = k
      · rw [if_pos hx] at h
        obtain rfl : x = c := Option.some.inj h
        exact ⟨List.mem_cons_self .., hx⟩
      · rw [if_neg hx] at h; cases h
theorem lastOf_none {k : Ky} : ∀ {m : List Ce}, lastOf m k = none → ∀ c ∈ m, c.key ≠ k
  | [], _, c, hc => by cases hc
  | x :: m, h, c, hc => by
    unfold lastOf at h
    rw [List.foldl_cons, lastOf_from] at h
    cases hm : lastOf m k with
    | some y => rw [hm] at h; cases h
    | none =>
      rw [hm] at h
      rcases List.mem_cons.1 hc with rfl | hc
      · intro hx; rw [if_pos hx] at h; cases h
      · exact lastOf_none hm c hc
theorem lastOf_unl {m : List Ce} (h : m.Pairwise fun x y => x.key ≠ y.key) {c : Ce} (hc : c ∈ m) : lastOf m c.key = some c := by
  cases e : lastOf m c.key with
  | none => exact absurd rfl (lastOf_none e c hc)
  | some x =>
    obtain ⟨h1, h2⟩ := lastOf_some e
    by_cases hx : x = c
    · rw [hx]
    · exfalso
      have hp := List.pairwise_iff_getElem.1 h
      obtain ⟨i, hi, rfl⟩ := List.getElem_of_mem h1
      obtain ⟨j, hj, rfl⟩ := List.getElem_of_mem hc
      rcases Nat.lt_trichotomy i j with hij | hij | hij
      · exact hp i j hi hj hij h2
      · subst hij; exact hx rfl
      · exact hp j i hj hi hij h2.symm
theorem last_same {l m q : List Ce} (hl : l.Pairwise fun x y => x.key.lt y.key) (hq : q.Pairwise fun x y => x.key ≠ y.key) (hm : ∀ c, c ∈ q ↔ lastOf m c.key = some c) : insCs l q = insCs l m := by
  refine cells_ext (insCs_srt hl) (insCs_srt hl) fun k => ?_
  rw [insCs_cell k hl, insCs_cell k hl]
  congr 1
  cases e : lastOf m k with
  | some c =>
    have hk := (lastOf_some e).2
    have hc : c ∈ q := (hm c).2 (by rw [hk]; exact e)
    rw [← hk, lastOf_unl hq hc]
  | none =>
    cases e2 : lastOf q k with
    | none => rfl
    | some c =>
      obtain ⟨h1, h2⟩ := lastOf_some e2
      have := (hm c).1 h1
      rw [h2, e] at this; cases this
theorem last_len {m q : List Ce} (hq : q.Pairwise fun x y => x.key ≠ y.key) (hm : ∀ c, c ∈ q ↔ lastOf m c.key = some c) : (insCs [] m).length = q.length := by
  have hs := insCs_srt (m := m) (l := []) List.Pairwise.nil
  have h1 : ∀ c, c ∈ insCs [] m ↔ c ∈ q := fun c => by
    rw [hm]
    constructor
    · intro hc
      have := cellOf_mem hs hc
      rw [insCs_cell _ List.Pairwise.nil] at this
      cases e : lastOf m c.key with
      | some x => rw [e] at this; exact this
      | none => rw [e] at this; cases this
    · intro hc
      have h2 : cellOf (insCs [] m) c.key = some c := by
        rw [insCs_cell _ List.Pairwise.nil, hc]; rfl
      exact (cellOf_some h2).1
  have n1 : (insCs [] m).Nodup := List.nodup_iff_pairwise_ne.2 (hs.imp (fun {a b} h e => Ky.lt_ne h (congrArg Ce.key e)))
  have n2 : q.Nodup := List.nodup_iff_pairwise_ne.2 (hq.imp (fun {a b} h e => h (congrArg Ce.key e)))
  exact Nat.le_antisymm (nodup_subN n1 fun x hx => (h1 x).1 hx) (nodup_subN n2 fun x hx => (h1 x).2 hx)
end Go.Ev
set_option linter.unusedSimpArgs false
set_option linter.unusedVariables false
namespace Go.Ev
noncomputable def rowC (r : R4) : Ce := cellR (keyA r.a r.b) r.c r.d
theorem rowC_key (r : R4) : (rowC r).key = keyA r.a r.b := cellR_key _ _ _
theorem rowC_may (r : R4) : mayC (rowC r) := cellR_may (keyA_may _ _) _ _
noncomputable def keyRw (l : List R4) : List Ky := (l.take 12).map fun r => keyA r.a r.b
noncomputable def cellsW (l : List R4) : List Ce := (l.take 12).map rowC
theorem keyRw_len (l : List R4) : (keyRw l).length ≤ 12 := by unfold keyRw; rw [List.length_map, List.length_take]; omega
theorem keyRw_may (l : List R4) : ∀ k ∈ keyRw l, k.may = true := fun k hk => by
  obtain ⟨r, -, rfl⟩ := List.mem_map.1 hk
  exact (Ky.may_iff _).2 (keyA_may _ _)
theorem keyRw_at {l : List R4} {i : Nat} {k : Ky} (h : (keyRw l)[i]? = some k) : ∃ r, l[i]? = some r ∧ k = keyA r.a r.b ∧ (cellsW l)[i]? = some (rowC r) := by
  unfold keyRw at h
  rw [List.getElem?_map] at h
  cases hr : (l.take 12)[i]? with
  | none => rw [hr] at h; cases h
  | some r =>
    rw [hr] at h
    have h2 : l[i]? = some r := by
      rw [List.getElem?_take] at hr
      split at hr
      · exact hr
      · cases hr
    refine ⟨r, h2, (Option.some.inj h).symm, ?_⟩
    unfold cellsW
    rw [List.getElem?_map, hr]; rfl
theorem cellsW_len (l : List R4) : (cellsW l).length = (keyRw l).length := by unfold cellsW keyRw; rw [List.length_map, List.length_map]
noncomputable def isLast (ks : List Ky) (i : Nat) : Bool := (ks.drop (i + 1)).all fun x => !decide (some x = ks[i]?)
noncomputable def lastI (ks : List Ky) (n : Nat) : List Nat := (List.range n).filter (isLast ks)
theorem lastI_succ (ks : List Ky) (n : Nat) : lastI ks (n + 1) = if isLast ks n = true then lastI ks n ++ [n] else lastI ks n := by
  unfold lastI
  rw [List.range_succ, List.filter_append]
  by_cases h : isLast ks n = true
  · rw [if_pos h, List.filter_cons_of_pos h]; rfl
  · rw [if_neg h, List.filter_cons_of_neg h, List.filter_nil, List.append_nil]
theorem lastI_len (ks : List Ky) (n : Nat) : (lastI ks n).length ≤ n := by
  have := List.length_filter_le (isLast ks) (List.range n)
  rw [List.length_range] at this
  exact this
theorem lastI_lt {ks : List Ky} {n i : Nat} (h : i ∈ lastI ks n) : i < n := List.mem_range.1 (List.mem_filter.1 h).1
theorem isLast_no {ks : List Ky} {i j : Nat} {x : Ky} (h : isLast ks i = true) (hj : i < j) (hx : ks[j]? = some x) : some x ≠ ks[i]? := by
  unfold isLast at h
  rw [List.all_eq_true] at h
  have hm : x ∈ ks.drop (i + 1) := by
    refine List.mem_of_getElem? (i := j - (i + 1)) ?_
    rw [List.getElem?_drop, show i + 1 + (j - (i + 1)) = j by omega]
    exact hx
  have := h x hm
  intro e
  rw [decide_eq_true e] at this
  cases this
theorem lastOf_iff : ∀ {m : List Ce} {c : Ce} {k : Ky}, lastOf m k = some c ↔ ∃ i : Nat, m[i]? = some c ∧ c.key = k ∧ ∀ j : Nat, i < j → ∀ x, m[j]? = some x → x.key ≠ k
  | [], c, k => by
    constructor
    · intro h; simp [lastOf] at h
    · rintro ⟨i, h, -⟩; simp at h
  | y :: m, c, k => by
    rw [lastOf_cons]
    constructor
    · intro h
      cases hz : lastOf m k with
      | some z =>
        rw [hz] at h
        obtain rfl : z = c := Option.some.inj h
        obtain ⟨i, h1, h2, h3⟩ := lastOf_iff.1 hz
        refine ⟨i + 1, by rw [List.getElem?_cons_succ]; exact h1, h2, fun j hj x hx => ?_⟩
        obtain ⟨j', rfl⟩ : ∃ j', j = j' + 1 := ⟨j - 1, by omega⟩
        rw [List.getElem?_cons_succ] at hx
        exact h3 j' (by omega) x hx
      | none =>
        rw [hz] at h
        by_cases hy : y.key = k
        · rw [if_pos hy] at h
          obtain rfl : y = c := Option.some.inj h
          refine ⟨0, rfl, hy, fun j hj x hx => ?_⟩
          obtain ⟨j', rfl⟩ : ∃ j', j = j' + 1 := ⟨j - 1, by omega⟩
          rw [List.getElem?_cons_succ] at hx
          exact lastOf_none hz x (List.mem_of_getElem? hx)
        · rw [if_neg hy] at h; cases h
    · rintro ⟨i, h1, h2, h3⟩
      cases i with
      | zero =>
        obtain rfl : y = c := Option.some.inj h1
        have hn : lastOf m k = none := by
          cases hz : lastOf m k with
          | none => rfl
          | some z =>
            obtain ⟨g1, g2⟩ := lastOf_some hz
            obtain ⟨j, hj⟩ := List.getElem?_of_mem g1
            exact absurd g2 (h3 (j + 1) (by omega) z (by rw [List.getElem?_cons_succ]; exact hj))
        rw [hn, if_pos h2]; rfl
      | succ i =>
        rw [List.getElem?_cons_succ] at h1
        rw [lastOf_iff.2 ⟨i, h1, h2, fun j hj x hx => h3 (j + 1) (by omega) x (by rw [List.getElem?_cons_succ]; exact hx)⟩]
        rfl
noncomputable def atC (l : List R4) (i : Nat) : Ce := match l[i]? with | some r => rowC r | none => Ce.z Ky.zero
theorem atC_some {l : List R4} {i : Nat} {r : R4} (h : l[i]? = some r) : atC l i = rowC r := by unfold atC; rw [h]
theorem atC_at {l : List R4} {i : Nat} (h : i < (keyRw l).length) : (cellsW l)[i]? = some (atC l i) ∧ (keyRw l)[i]? = some (atC l i).key := by
  obtain ⟨k, hk⟩ : ∃ k, (keyRw l)[i]? = some k := ⟨_, List.getElem?_eq_getElem h⟩
  obtain ⟨r, h1, h2, h3⟩ := keyRw_at hk
  rw [atC_some h1, rowC_key]
  exact ⟨h3, h2 ▸ hk⟩
noncomputable def lastW (l : List R4) : List Nat := lastI (keyRw l) (keyRw l).length
theorem lastW_pair (l : List R4) : ((lastW l).map (atC l)).Pairwise fun x y => x.key ≠ y.key := by
  rw [List.pairwise_map]
  refine List.Pairwise.imp_of_mem ?_ (List.Pairwise.filter _ (List.pairwise_lt_range (n := (keyRw l).length)))
  intro i j hi hj hij e
  have h1 := atC_at (lastI_lt hi)
  have h2 := atC_at (lastI_lt hj)
  have := isLast_no (List.mem_filter.1 hi).2 hij h2.2
  rw [h1.2, e] at this
  exact this rfl
theorem lastW_mem (l : List R4) (c : Ce) : c ∈ (lastW l).map (atC l) ↔ lastOf (cellsW l) c.key = some c := by
  rw [List.mem_map, lastOf_iff]
  constructor
  · rintro ⟨i, hi, rfl⟩
    have h1 := atC_at (lastI_lt hi)
    refine ⟨i, h1.1, rfl, fun j hj x hx e => ?_⟩
    have hjl : j < (keyRw l).length := by
      rw [← cellsW_len]
      exact (List.getElem?_eq_some_iff.1 hx).1
    have h2 := atC_at hjl
    rw [hx] at h2
    have := isLast_no (List.mem_filter.1 hi).2 hj h2.2
    rw [h1.2, ← Option.some.inj h2.1, e] at this
    exact this rfl
  · rintro ⟨i, h1, -, h3⟩
    have hil : i < (keyRw l).length := by
      rw [← cellsW_len]
      exact (List.getElem?_eq_some_iff.1 h1).1
    have h2 := atC_at hil
    rw [h1] at h2
    have e := Option.some.inj h2.1
    refine ⟨i, ?_, e.symm⟩
    refine List.mem_filter.2 ⟨List.mem_range.2 hil, ?_⟩
    unfold isLast
    rw [List.all_eq_true]
    intro x hx
    obtain ⟨j, hj⟩ := List.getElem?_of_mem hx
    rw [List.getElem?_drop] at hj
    have hjl : i + 1 + j < (keyRw l).length := (List.getElem?_eq_some_iff.1 hj).1
    have h4 := atC_at hjl
    have h5 := h3 (i + 1 + j) (by omega) _ h4.1
    rw [hj] at h4
    have e2 := Option.some.inj h4.2
    have : ¬ (some x = (keyRw l)[i]?) := by
      rw [h2.2]
      intro hh
      rw [e2, ← e] at hh
      exact h5 (Option.some.inj hh)
    rw [decide_eq_false this]; rfl
noncomputable def runC (v : Vi) (m : List Ce) : Vi := m.foldl (fun q c => (putV q c).1) v
theorem runC_snoc (v : Vi) (m : List Ce) (c : Ce) : runC v (m ++ [c]) = (putV (runC v m) c).1 := by unfold runC; rw [List.foldl_append]; rfl
theorem runC_few {v : Vi} : ∀ (m : List Ce) {n : Nat}, v.Few n → (runC v m).Few (n + m.length) := fun m => by
  induction m generalizing v with
  | nil => intro n h; exact h
  | cons c m ih =>
    intro n h
    have := ih (h.put c)
    rw [List.length_cons, show n + (m.length + 1) = n + 1 + m.length by omega]
    exact this
theorem runC_ins : ∀ {m : List Ce} {v : Vi}, RiV v → (∀ c ∈ m, mayC c ∧ c.key ∈ v.writes) → runC v m = ⟨v.base, v.reads, v.writes, insCs v.cells m⟩
  | [], _, _, _ => rfl
  | c :: m, v, h, hm => by
    obtain ⟨h1, h2⟩ := hm c (List.mem_cons_self ..)
    have e : (putV v c).1 = ⟨v.base, v.reads, v.writes, insC c v.cells⟩ := by rw [putV_ok ⟨h, h1⟩ h2]
    show runC (putV v c).1 m = _
    rw [e, runC_ins (h.put h1 h2) fun x hx => hm x (List.mem_cons_of_mem _ hx)]
    rfl
noncomputable def openL (sr l : List R4) : Vi := ⟨stateR sr, [], setK (keyRw l), []⟩
theorem openL_few (sr l : List R4) : (openL sr l).Few 0 :=
  ⟨RiV.open (stateR_few sr).ri ⟨fun k hk => (by cases hk), List.Pairwise.nil, Nat.zero_le _⟩ (setK_right (fun k hk => (Ky.may_iff k).1 (keyRw_may l k hk)) (by have := keyRw_len l; omega)), (stateR_few sr).len, fun y hy => (mayA_slots ((stateR_few sr).ri.may y hy)).len, Nat.zero_le _, by have := setK_len (keyRw l); have := keyRw_len l; show (setK (keyRw l)).length ≤ 15; omega, Nat.zero_le _⟩
theorem cellsW_ok (sr l : List R4) : ∀ c ∈ cellsW l, mayC c ∧ c.key ∈ (openL sr l).writes := fun c hc => by
  obtain ⟨r, hr, rfl⟩ := List.mem_map.1 hc
  exact ⟨rowC_may r, setK_mem.2 (by rw [rowC_key]; exact List.mem_map.2 ⟨r, hr, rfl⟩)⟩
theorem last_all (sr l : List R4) {T : List Nat} (hT : T.Perm (lastW l)) : runC (openL sr l) (T.map (atC l)) = runC (openL sr l) (cellsW l) ∧ (runC (openL sr l) (cellsW l)).cells.length = (lastW l).length ∧ RiV (runC (openL sr l) (cellsW l)) := by
  have hr := (openL_few sr l).ri
  have hp : (T.map (atC l)).Pairwise fun x y => x.key ≠ y.key := ((hT.map (atC l)).pairwise_iff (fun h e => h e.symm)).2 (lastW_pair l)
  have hm : ∀ c, c ∈ T.map (atC l) ↔ lastOf (cellsW l) c.key = some c := fun c => by
    rw [(hT.map (atC l)).mem_iff]
    exact lastW_mem l c
  have hok : ∀ c ∈ T.map (atC l), mayC c ∧ c.key ∈ (openL sr l).writes := fun c hc => cellsW_ok sr l c (lastOf_some ((hm c).1 hc)).1
  refine ⟨?_, ?_, (runC_few (cellsW l) (openL_few sr l)).ri⟩
  · rw [runC_ins hr hok, runC_ins hr (cellsW_ok sr l), last_same hr.srt hp hm]
  · rw [runC_ins hr (cellsW_ok sr l)]
    show (insCs [] (cellsW l)).length = _
    rw [last_len (lastW_pair l) (lastW_mem l), List.length_map]
end Go.Ev
