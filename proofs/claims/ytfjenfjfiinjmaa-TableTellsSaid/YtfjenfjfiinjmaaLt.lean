/- Lt: TableTells: the walk. -/
import Derived.Test.YtfjenfjfiinjmaaTl
set_option linter.unusedSimpArgs false
set_option linter.unusedVariables false
namespace Go.Ev
theorem at_open {H : Hp} {b o n : Nat} {cs : List Value} (h : cellsAt H b o n = some cs) : ∃ e, findE H b = some e ∧ e.off ≤ o ∧ o - e.off + n ≤ e.cells.length ∧ List.take n (List.drop (o - e.off) e.cells) = cs := by
  unfold cellsAt at h
  split at h
  case h_2 => cases h
  rename_i e he
  split at h
  case isFalse => cases h
  rename_i ho
  unfold subL at h
  split at h
  case isFalse => cases h
  rename_i hl
  exact ⟨e, he, ho, hl, Option.some.inj h⟩
theorem limR_len (l : List Sl) : (limR l).1.length ≤ 1000 := by
  unfold limR
  split
  · simp
  · simp; omega
theorem mergeR_len (l m : List Sl) : (mergeR l m).1.length ≤ 1000 := by
  unfold mergeR
  split
  · exact limR_len _
  · simp
theorem diffR_len (l m : List Sl) : (diffR l m).1.length ≤ 1000 := by
  unfold diffR
  split
  · exact limR_len _
  · simp
/-- slots that are many -/
def mkT (n : Nat) : List Sl := (List.range n).map fun i => ⟨W.lo (10 * i), W.lo 1⟩
theorem mkT_succ (n : Nat) : mkT (n + 1) = mkT n ++ [⟨W.lo (10 * n), W.lo 1⟩] := by
  unfold mkT; rw [List.range_succ, List.map_append]; rfl
theorem mkT_len (n : Nat) : (mkT n).length = n := by simp [mkT]
theorem SlR.cells1 {H : Hp} {l : List Sl} {v : Value} (h : SlR H l v) : v.cells = #[v] := by
  obtain ⟨p, c, rfl, _⟩ := h
  rfl
/-- the first of the slots that can be read -/
theorem SlR.cut {H : Hp} {l : List Sl} {q : Option Addr} {n c : Nat} (h : SlR H l (.slice q n c)) (hn : 40 < l.length) (c' : Nat) : SlR H (l.take 40) (.slice q 40 c') := by
  obtain ⟨p, c0, hv, h0 | ⟨b, o, rfl, h1⟩⟩ := h
  · rw [h0] at hn; cases hn
  · cases hv
    have hl : (l.take 40).length = 40 := by simp; omega
    refine ⟨_, c', by rw [hl], .inr ⟨b, o, rfl, ?_⟩⟩
    rw [hl]
    unfold cellsAt subL at *
    split at h1
    case h_2 => cases h1
    rename_i e he
    split at h1
    case isFalse => cases h1
    rename_i ho
    split at h1
    case isFalse => cases h1
    rename_i hle
    have := Option.some.inj h1
    rw [if_pos ho, if_pos (by omega)]
    congr 1
    have h2 : slC (l.take 40) = (slC l).take (40 * 8) := by
      have e1 : l = l.take 40 ++ l.drop 40 := (List.take_append_drop 40 l).symm
      have e3 : (slC (l.take 40)).length = 40 * 8 := by rw [slC_len, hl]
      conv => rhs; rw [e1, slC_app]
      rw [List.take_append_of_le_length (by omega), ← e3, List.take_length]
    rw [h2, ← this, List.take_take, Nat.min_eq_left (by omega)]
end Go.Ev
namespace Go.Proofs.Ytfjenfjfiinjmaa
open Go Go.Ev Go.Proofs
set_option maxRecDepth 100000
set_option maxHeartbeats 4000000
section
variable {H : Hp} {l m : List Sl} {v u : Value} {k w : W} {K' : Value → Hp → Prop}
theorem refPut_use (hm : marksOf H = []) (hl : SlR H l v) (hn : l.length ≤ 2000) (hk : ∀ w' H', Ext H H' → SlR H' (mergeR l [⟨k, w⟩]).1 w' → K' (.tuple #[w', .int .i64 (mergeR l [⟨k, w⟩]).2]) H') :
    CallsV Try.prog 18 [v, k.v, w.v] H K' := by
  obtain ⟨Hf, h1, h2⟩ := hl.h
  exact outE_use (refPut_ok h1.marks h1.r hn) h2 hm hk
theorem refMerge_use (hm : marksOf H = []) (hl : SlR H l v) (hu : SlR H m u) (hn : l.length ≤ 2000) (hn2 : m.length ≤ 2000) (hk : ∀ w' H', Ext H H' → SlR H' (mergeR l m).1 w' → K' (.tuple #[w', .int .i64 (mergeR l m).2]) H') :
    CallsV Try.prog 21 [v, u] H K' := by
  obtain ⟨Hf, h1, h2, h3, h4, h5⟩ := hl.two hu
  exact outE_use (refMerge_ok h3 h4 h5 hn hn2 h2) h1 hm hk
theorem refDiff_use (hm : marksOf H = []) (hl : SlR H l v) (hu : SlR H m u) (hn : l.length ≤ 2000) (hn2 : m.length ≤ 2000) (hk : ∀ w' H', Ext H H' → SlR H' (diffR l m).1 w' → K' (.tuple #[w', .int .i64 (diffR l m).2]) H') :
    CallsV Try.prog 23 [v, u] H K' := by
  obtain ⟨Hf, h1, h2, h3, h4, h5⟩ := hl.two hu
  exact outE_use (refDiff_ok h3 h4 h5 hn hn2) h1 hm hk
end
def plT : Plans := fun i => if i = 5 then [(0, 9)] else Try.pl3 i
attribute [push_cast] plT
theorem tableTells_ok {H : Hp} {any : List Sl} {one two : List (Int × Int)} {p : Option Addr} {n c : Nat} {v u : Value} {noughts : Bool} {key val : W} {many : Int} (hm : marksOf H = []) (h0 : SlR H any (.slice p n c)) (h1 : PrR H one v) (h2 : PrR H two u) (i3 : i64In many) (hc : n ≤ c ∧ n ≤ 9223372036854775807) (b1 : rawOk one) (b2 : rawOk two) :
    CallsV Try.prog 3 [.slice p n c, v, u, .bool noughts, key.v, val.v, .int .i64 many] H (Ret0 (.bool true)) := by
  have la := (slotsL_len false one).1
  have lb := (slotsL_len noughts two).1
  obtain ⟨a, ea⟩ : ∃ a, a = slotsL false (one.take 20) [] := ⟨_, rfl⟩
  obtain ⟨b, eb⟩ : ∃ b, b = slotsL noughts (two.take 20) [] := ⟨_, rfl⟩
  rw [← ea] at la
  rw [← eb] at lb
  have hnl : n = any.length := by obtain ⟨_, _, h, _⟩ := h0; cases h; rfl
  subst hnl
  refine callsO gD_ok Try.mix plT Try.func3 rfl Try.ntmps3 Try.results3 rfl (by first | rfl | assumption) (Nat.le_of_ble_eq_true rfl) (by kernel_rfl) ?_
  simp only [push_cast, Nat.reduceAdd, Nat.reduceSub, Nat.reduceMul, Nat.reduceLT, Nat.reduceLeDiff, Nat.reduceEqDiff, Nat.reduceMod, Nat.reduceDiv, Int.reduceAdd, Int.reduceSub, Int.reduceMul, Int.reduceLT, Int.reduceLE, Int.reduceEq, Int.reduceNeg, Int.reduceToNat, reduceIte, reduceCtorEq]
  intro b11 hb11 b12 hb12
  have x0 := Ext.cons (e := ⟨b11, 0, .cel 26, key.cells⟩) hm rfl hb11
  have x1 := Ext.cons (e := ⟨b12, 0, .cel 26, val.cells⟩) x0.marks rfl ⟨hb12.1, hb12.2.1, hb12.2.2⟩
  have k11 : cellsAt (⟨b12, 0, .cel 26, val.cells⟩ :: ⟨b11, 0, .cel 26, key.cells⟩ :: H) b11 0 4 = some key.cells := by simp only [push_cast, Nat.reduceAdd, Nat.reduceSub, Nat.reduceMul, Nat.reduceLT, Nat.reduceLeDiff, Nat.reduceEqDiff, Nat.reduceMod, Nat.reduceDiv, Int.reduceAdd, Int.reduceSub, Int.reduceMul, Int.reduceLT, Int.reduceLE, Int.reduceEq, Int.reduceNeg, Int.reduceToNat, reduceIte, reduceCtorEq, hb12]
  have k12 : cellsAt (⟨b12, 0, .cel 26, val.cells⟩ :: ⟨b11, 0, .cel 26, key.cells⟩ :: H) b12 0 4 = some val.cells := by simp only [push_cast, Nat.reduceAdd, Nat.reduceSub, Nat.reduceMul, Nat.reduceLT, Nat.reduceLeDiff, Nat.reduceEqDiff, Nat.reduceMod, Nat.reduceDiv, Int.reduceAdd, Int.reduceSub, Int.reduceMul, Int.reduceLT, Int.reduceLE, Int.reduceEq, Int.reduceNeg, Int.reduceToNat, reduceIte, reduceCtorEq, hb12]
  refine awake_ok.pure trivial ?_
  simp only [push_cast, Nat.reduceAdd, Nat.reduceSub, Nat.reduceMul, Nat.reduceLT, Nat.reduceLeDiff, Nat.reduceEqDiff, Nat.reduceMod, Nat.reduceDiv, Int.reduceAdd, Int.reduceSub, Int.reduceMul, Int.reduceLT, Int.reduceLE, Int.reduceEq, Int.reduceNeg, Int.reduceToNat, reduceIte, reduceCtorEq]
  refine (fun rest => ?main : ((T : Tm) → (∃ x vx, x.length ≤ 40 ∧ SlR H x vx ∧ subT T [(1, v), (2, u), (3, .bool noughts), (6, .int .i64 many), (11, .pointer (some ⟨b11, 0, none⟩)), (12, .pointer (some ⟨b12, 0, none⟩)), (15, .bool true), (16, vx)]) → WpV Try.prog none 171 (.region 5 ?o false) ?K T (⟨b12, 0, .cel 26, val.cells⟩ :: ⟨b11, 0, .cel 26, key.cells⟩ :: H)) → _) ?rest
  case main =>
    rcases Nat.lt_or_ge 40 any.length with h40 | h40
    · have e1 : (40 : Int) < (any.length : Int) := by omega
      have e2 : (40 : Int) ≤ (c : Int) := by omega
      have e3 : ¬ c = 0 := by omega
      obtain ⟨bp, op, c', hcp⟩ := h0.lies (k := 0) (by omega)
      cases hcp
      simp only [push_cast, Nat.reduceAdd, Nat.reduceSub, Nat.reduceMul, Nat.reduceLT, Nat.reduceLeDiff, Nat.reduceEqDiff, Nat.reduceMod, Nat.reduceDiv, Int.reduceAdd, Int.reduceSub, Int.reduceMul, Int.reduceLT, Int.reduceLE, Int.reduceEq, Int.reduceNeg, Int.reduceToNat, reduceIte, reduceCtorEq, e1, e2, e3]
      refine rest _ ?_
      refine ⟨any.take 40, _, by simp; omega, h0.cut h40 c, ?_⟩
      simp only [push_cast, Nat.reduceAdd, Nat.reduceSub, Nat.reduceMul, Nat.reduceLT, Nat.reduceLeDiff, Nat.reduceEqDiff, Nat.reduceMod, Nat.reduceDiv, Int.reduceAdd, Int.reduceSub, Int.reduceMul, Int.reduceLT, Int.reduceLE, Int.reduceEq, Int.reduceNeg, Int.reduceToNat, reduceIte, reduceCtorEq]
    · have e1 : ¬ (40 : Int) < (any.length : Int) := by omega
      simp only [push_cast, Nat.reduceAdd, Nat.reduceSub, Nat.reduceMul, Nat.reduceLT, Nat.reduceLeDiff, Nat.reduceEqDiff, Nat.reduceMod, Nat.reduceDiv, Int.reduceAdd, Int.reduceSub, Int.reduceMul, Int.reduceLT, Int.reduceLE, Int.reduceEq, Int.reduceNeg, Int.reduceToNat, reduceIte, reduceCtorEq, e1]
      refine rest _ ?_
      exact ⟨any, _, h40, h0, by simp only [push_cast, Nat.reduceAdd, Nat.reduceSub, Nat.reduceMul, Nat.reduceLT, Nat.reduceLeDiff, Nat.reduceEqDiff, Nat.reduceMod, Nat.reduceDiv, Int.reduceAdd, Int.reduceSub, Int.reduceMul, Int.reduceLT, Int.reduceLE, Int.reduceEq, Int.reduceNeg, Int.reduceToNat, reduceIte, reduceCtorEq]⟩
  case rest =>
    rintro T ⟨x, vx, hx, hsx, hT⟩
    refine WpV.sub (s := (_, ⟨b12, 0, .cel 26, val.cells⟩ :: ⟨b11, 0, .cel 26, key.cells⟩ :: H)) ⟨hT, subH_self _, rfl⟩ (regO gD_ok ?_)
    have hsx := x1.sl (x0.sl hsx)
    simp only [push_cast, Nat.reduceAdd, Nat.reduceSub, Nat.reduceMul, Nat.reduceLT, Nat.reduceLeDiff, Nat.reduceEqDiff, Nat.reduceMod, Nat.reduceDiv, Int.reduceAdd, Int.reduceSub, Int.reduceMul, Int.reduceLT, Int.reduceLE, Int.reduceEq, Int.reduceNeg, Int.reduceToNat, reduceIte, reduceCtorEq]
    refine slots_use x1.marks (x1.pr (x0.pr h1)) b1.1 b1.2 ?_
    rw [← ea]
    intro u1 H1 y1 s1
    simp only [push_cast, Nat.reduceAdd, Nat.reduceSub, Nat.reduceMul, Nat.reduceLT, Nat.reduceLeDiff, Nat.reduceEqDiff, Nat.reduceMod, Nat.reduceDiv, Int.reduceAdd, Int.reduceSub, Int.reduceMul, Int.reduceLT, Int.reduceLE, Int.reduceEq, Int.reduceNeg, Int.reduceToNat, reduceIte, reduceCtorEq]
    refine slots_use y1.marks (y1.pr (x1.pr (x0.pr h2))) b2.1 b2.2 ?_
    rw [← eb]
    intro u2 H2 y2 s2
    have k11 := y2.keep _ _ _ _ (y1.keep _ _ _ _ k11)
    have k12 := y2.keep _ _ _ _ (y1.keep _ _ _ _ k12)
    have s1 := y2.sl s1
    have hsx := y2.sl (y1.sl hsx)
    have m2 := y2.marks
    simp only [push_cast, Nat.reduceAdd, Nat.reduceSub, Nat.reduceMul, Nat.reduceLT, Nat.reduceLeDiff, Nat.reduceEqDiff, Nat.reduceMod, Nat.reduceDiv, Int.reduceAdd, Int.reduceSub, Int.reduceMul, Int.reduceLT, Int.reduceLE, Int.reduceEq, Int.reduceNeg, Int.reduceToNat, reduceIte, reduceCtorEq]
    have p25 := pickN_lt many (n := 25) (by omega)
    have i25 : i64In 25 := by decide
    obtain ⟨N, hN⟩ : ∃ N : Nat, N = 980 + pickN many 25 := ⟨_, rfl⟩
    have en : (980 : Int) + (pickN many 25 : Int) = (N : Int) := by omega
    have wn := wrap_i64' (show -9223372036854775808 ≤ (N : Int) ∧ (N : Int) ≤ 9223372036854775807 by omega)
    refine loopO gD_ok (pl := plT) Try.mix (X := Nat × Value × Hp)
      (fun s => ([(6, .int .i64 many), (11, .pointer (some ⟨b11, 0, none⟩)), (12, .pointer (some ⟨b12, 0, none⟩)), (15, .bool true), (16, vx), (17, u1), (18, u2), (19, s.2.1), (20, .int .i64 s.1)], s.2.2 ++ H2))
      (fun s => s.1 ≤ N ∧ OutS 31 (mkT s.1) s.2.1 s.2.2 ∧ freshN s.2.2 H2) (fun s => N - s.1) (0, .slice none 0 0, []) ?_ ?_ (by kernel_rfl) ?_
    · exact ⟨Nat.zero_le _, .inl ⟨rfl, rfl, rfl⟩, trivial⟩
    · simp only [push_cast, Nat.reduceAdd, Nat.reduceSub, Nat.reduceMul, Nat.reduceLT, Nat.reduceLeDiff, Nat.reduceEqDiff, Nat.reduceMod, Nat.reduceDiv, Int.reduceAdd, Int.reduceSub, Int.reduceMul, Int.reduceLT, Int.reduceLE, Int.reduceEq, Int.reduceNeg, Int.reduceToNat, reduceIte, reduceCtorEq, m2]
    · rintro ⟨i, vo, No⟩ ⟨hi, ho, hf⟩
      dsimp only at hi ho hf ⊢
      rcases Nat.lt_or_ge i N with hlt | hge
      · obtain ⟨m10, hm10⟩ : ∃ m : Nat, m = 10 * i := ⟨_, rfl⟩
        have e2 : (10 : Int) * (i : Int) = (m10 : Int) := by omega
        have w2 := wrap_i64' (show -9223372036854775808 ≤ (m10 : Int) ∧ (m10 : Int) ≤ 9223372036854775807 by omega)
        have w3 := wrap_u64' (n := (m10 : Int)) (by omega)
        have w4 : Value.int .u64 (1 : Int) = .int .u64 ((1 : Nat) : Int) := rfl
        simp only [push_cast, Nat.reduceAdd, Nat.reduceSub, Nat.reduceMul, Nat.reduceLT, Nat.reduceLeDiff, Nat.reduceEqDiff, Nat.reduceMod, Nat.reduceDiv, Int.reduceAdd, Int.reduceSub, Int.reduceMul, Int.reduceLT, Int.reduceLE, Int.reduceEq, Int.reduceNeg, Int.reduceToNat, reduceIte, reduceCtorEq, i3, i25, en, wn, hlt, e2, w2, w3]
        intro b10 hb10
        have w5 : (W.lo (10 * i)).a = m10 := by unfold W.lo; dsimp only; omega
        have hcells : [Value.int .u64 (m10 : Int), .int .u64 0, .int .u64 0, .int .u64 0, .int .u64 1, .int .u64 0, .int .u64 0, .int .u64 0] = Sl.cells ⟨W.lo (10 * i), W.lo 1⟩ := by
          simp only [Sl.cells, W.cells, w5]
          rfl
        rw [hcells]
        refine app_slot ho hb10 (by rw [mkT_len]; omega) fun v' N' ho' hf' => ?_
        simp only [push_cast, Nat.reduceAdd, Nat.reduceSub, Nat.reduceMul, Nat.reduceLT, Nat.reduceLeDiff, Nat.reduceEqDiff, Nat.reduceMod, Nat.reduceDiv, Int.reduceAdd, Int.reduceSub, Int.reduceMul, Int.reduceLT, Int.reduceLE, Int.reduceEq, Int.reduceNeg, Int.reduceToNat, reduceIte, reduceCtorEq, wrap_i64' (show -9223372036854775808 ≤ (i : Int) + 1 ∧ (i : Int) + 1 ≤ 9223372036854775807 by omega)]
        refine ⟨(i + 1, v', N'), ⟨by dsimp only; omega, by rw [mkT_succ]; exact ho', freshN_cons hf'⟩, by dsimp only; omega, ⟨rfl, rfl⟩, subH_pre (subH_cons (fresh_app hb10)) _, ?_⟩
        simp only [marks_append, marksOf, ho.wr.2, ho'.wr.2, List.nil_append]
      · obtain rfl : i = N := by omega
        obtain ⟨x3, s3⟩ := ho.ext m2 hf
        have hsx := x3.sl hsx
        have s1 := x3.sl s1
        have s2 := x3.sl s2
        simp only [push_cast, Nat.reduceAdd, Nat.reduceSub, Nat.reduceMul, Nat.reduceLT, Nat.reduceLeDiff, Nat.reduceEqDiff, Nat.reduceMod, Nat.reduceDiv, Int.reduceAdd, Int.reduceSub, Int.reduceMul, Int.reduceLT, Int.reduceLE, Int.reduceEq, Int.reduceNeg, Int.reduceToNat, reduceIte, reduceCtorEq, i3, i25, en, wn, Nat.lt_irrefl, hsx.cells1, s1.cells1, s2.cells1, s3.cells1]
        intro b65 hb65
        obtain ⟨H4, hH4⟩ : ∃ H4 : Hp, H4 = ⟨b65, 0, .vec 22 1 4, [vx, u1, u2, vo]⟩ :: (No ++ H2) := ⟨_, rfl⟩
        have x4 : Ext (No ++ H2) H4 := by rw [hH4]; exact Ext.cons x3.marks rfl hb65
        have hq : ∀ j : Nat, j < 4 → ∃ l vl, cellsAt H4 b65 j 1 = some [vl] ∧ SlR H4 l vl ∧ l.length ≤ 2000 := fun j hj => by
          obtain rfl | rfl | rfl | rfl : j = 0 ∨ j = 1 ∨ j = 2 ∨ j = 3 := by omega
          · exact ⟨x, vx, by rw [hH4]; simp only [push_cast, Nat.reduceAdd, Nat.reduceSub, Nat.reduceMul, Nat.reduceLT, Nat.reduceLeDiff, Nat.reduceEqDiff, Nat.reduceMod, Nat.reduceDiv, Int.reduceAdd, Int.reduceSub, Int.reduceMul, Int.reduceLT, Int.reduceLE, Int.reduceEq, Int.reduceNeg, Int.reduceToNat, reduceIte, reduceCtorEq], x4.sl hsx, by omega⟩
          · exact ⟨a, u1, by rw [hH4]; simp only [push_cast, Nat.reduceAdd, Nat.reduceSub, Nat.reduceMul, Nat.reduceLT, Nat.reduceLeDiff, Nat.reduceEqDiff, Nat.reduceMod, Nat.reduceDiv, Int.reduceAdd, Int.reduceSub, Int.reduceMul, Int.reduceLT, Int.reduceLE, Int.reduceEq, Int.reduceNeg, Int.reduceToNat, reduceIte, reduceCtorEq], x4.sl s1, by omega⟩
          · exact ⟨b, u2, by rw [hH4]; simp only [push_cast, Nat.reduceAdd, Nat.reduceSub, Nat.reduceMul, Nat.reduceLT, Nat.reduceLeDiff, Nat.reduceEqDiff, Nat.reduceMod, Nat.reduceDiv, Int.reduceAdd, Int.reduceSub, Int.reduceMul, Int.reduceLT, Int.reduceLE, Int.reduceEq, Int.reduceNeg, Int.reduceToNat, reduceIte, reduceCtorEq], x4.sl s2, by omega⟩
          · exact ⟨mkT i, vo, by rw [hH4]; simp only [push_cast, Nat.reduceAdd, Nat.reduceSub, Nat.reduceMul, Nat.reduceLT, Nat.reduceLeDiff, Nat.reduceEqDiff, Nat.reduceMod, Nat.reduceDiv, Int.reduceAdd, Int.reduceSub, Int.reduceMul, Int.reduceLT, Int.reduceLE, Int.reduceEq, Int.reduceNeg, Int.reduceToNat, reduceIte, reduceCtorEq], x4.sl s3, by rw [mkT_len]; omega⟩
        have k11 := x4.keep _ _ _ _ (x3.keep _ _ _ _ k11)
        have k12 := x4.keep _ _ _ _ (x3.keep _ _ _ _ k12)
        have hsx := x4.sl hsx
        have s1 := x4.sl s1
        have s2 := x4.sl s2
        have m4 := x4.marks
        try simp only [push_cast, Nat.reduceAdd, Nat.reduceSub, Nat.reduceMul, Nat.reduceLT, Nat.reduceLeDiff, Nat.reduceEqDiff, Nat.reduceMod, Nat.reduceDiv, Int.reduceAdd, Int.reduceSub, Int.reduceMul, Int.reduceLT, Int.reduceLE, Int.reduceEq, Int.reduceNeg, Int.reduceToNat, reduceIte, reduceCtorEq]
        rw [← hH4]
        refine loopO gD_ok (pl := plT) Try.mix (X := Nat × Hp)
          (fun s => ([(11, .pointer (some ⟨b11, 0, none⟩)), (12, .pointer (some ⟨b12, 0, none⟩)), (15, .bool true), (16, vx), (17, u1), (18, u2), (65, .slice (some ⟨b65, 0, none⟩) 4 4), (66, .int .i64 4), (67, .int .i64 s.1)], s.2))
          (fun s => s.1 ≤ 4 ∧ Ext H4 s.2) (fun s => 4 - s.1) (0, H4) ?_ ?_ (by kernel_rfl) ?_
        · exact ⟨Nat.zero_le _, .refl m4⟩
        · simp only [push_cast, Nat.reduceAdd, Nat.reduceSub, Nat.reduceMul, Nat.reduceLT, Nat.reduceLeDiff, Nat.reduceEqDiff, Nat.reduceMod, Nat.reduceDiv, Int.reduceAdd, Int.reduceSub, Int.reduceMul, Int.reduceLT, Int.reduceLE, Int.reduceEq, Int.reduceNeg, Int.reduceToNat, reduceIte, reduceCtorEq]
        · rintro ⟨j, Hk⟩ ⟨hj, yk⟩
          dsimp only at hj yk ⊢
          rcases Nat.lt_or_ge j 4 with hlt | hge
          · have j4 : (j : Int) < 4 := by omega
            obtain ⟨l, vl, hc65, sl, nl⟩ := hq j hlt
            have sl := yk.sl sl
            have k11 := yk.keep _ _ _ _ k11
            have k12 := yk.keep _ _ _ _ k12
            obtain ⟨e65, f65, g65⟩ := at_open (yk.keep _ _ _ _ hc65)
            obtain ⟨e11, f11, g11⟩ := at_open k11
            obtain ⟨e12, f12, g12⟩ := at_open k12
            obtain ⟨Hl, hl1, hl2⟩ := sl.h
            simp only [push_cast, Nat.reduceAdd, Nat.reduceSub, Nat.reduceMul, Nat.reduceLT, Nat.reduceLeDiff, Nat.reduceEqDiff, Nat.reduceMod, Nat.reduceDiv, Int.reduceAdd, Int.reduceSub, Int.reduceMul, Int.reduceLT, Int.reduceLE, Int.reduceEq, Int.reduceNeg, Int.reduceToNat, reduceIte, reduceCtorEq, j4, hlt, f65, g65, f11, g11, f12, g12]
            refine TakeV.mk hl2 (right_ok hl1) ?_
            simp only [push_cast, Nat.reduceAdd, Nat.reduceSub, Nat.reduceMul, Nat.reduceLT, Nat.reduceLeDiff, Nat.reduceEqDiff, Nat.reduceMod, Nat.reduceDiv, Int.reduceAdd, Int.reduceSub, Int.reduceMul, Int.reduceLT, Int.reduceLE, Int.reduceEq, Int.reduceNeg, Int.reduceToNat, reduceIte, reduceCtorEq]
            refine TakeV.mk hl2 (refRight_ok hl1 (by omega)) ?_
            simp only [push_cast, Nat.reduceAdd, Nat.reduceSub, Nat.reduceMul, Nat.reduceLT, Nat.reduceLeDiff, Nat.reduceEqDiff, Nat.reduceMod, Nat.reduceDiv, Int.reduceAdd, Int.reduceSub, Int.reduceMul, Int.reduceLT, Int.reduceLE, Int.reduceEq, Int.reduceNeg, Int.reduceToNat, reduceIte, reduceCtorEq, bne_self_eq_false]
            refine TakeV.mk hl2 (patch_ok hl1) ?_
            simp only [push_cast, Nat.reduceAdd, Nat.reduceSub, Nat.reduceMul, Nat.reduceLT, Nat.reduceLeDiff, Nat.reduceEqDiff, Nat.reduceMod, Nat.reduceDiv, Int.reduceAdd, Int.reduceSub, Int.reduceMul, Int.reduceLT, Int.reduceLE, Int.reduceEq, Int.reduceNeg, Int.reduceToNat, reduceIte, reduceCtorEq]
            refine TakeV.mk hl2 (refPatch_ok hl1 (by omega)) ?_
            simp only [push_cast, Nat.reduceAdd, Nat.reduceSub, Nat.reduceMul, Nat.reduceLT, Nat.reduceLeDiff, Nat.reduceEqDiff, Nat.reduceMod, Nat.reduceDiv, Int.reduceAdd, Int.reduceSub, Int.reduceMul, Int.reduceLT, Int.reduceLE, Int.reduceEq, Int.reduceNeg, Int.reduceToNat, reduceIte, reduceCtorEq, bne_self_eq_false, f11, g11]
            refine TakeV.mk hl2 (get_ok hl1 (by omega)) ?_
            simp only [push_cast, Nat.reduceAdd, Nat.reduceSub, Nat.reduceMul, Nat.reduceLT, Nat.reduceLeDiff, Nat.reduceEqDiff, Nat.reduceMod, Nat.reduceDiv, Int.reduceAdd, Int.reduceSub, Int.reduceMul, Int.reduceLT, Int.reduceLE, Int.reduceEq, Int.reduceNeg, Int.reduceToNat, reduceIte, reduceCtorEq, f11, g11]
            refine TakeV.mk hl2 (refGet_ok hl1 (by omega)) ?_
            simp only [push_cast, Nat.reduceAdd, Nat.reduceSub, Nat.reduceMul, Nat.reduceLT, Nat.reduceLeDiff, Nat.reduceEqDiff, Nat.reduceMod, Nat.reduceDiv, Int.reduceAdd, Int.reduceSub, Int.reduceMul, Int.reduceLT, Int.reduceLE, Int.reduceEq, Int.reduceNeg, Int.reduceToNat, reduceIte, reduceCtorEq, decide_true, f11, g11, f12, g12]
            refine put_use yk.marks sl ?_
            intro v5 H5 y5 s5
            have sl := y5.sl sl
            have k11 := y5.keep _ _ _ _ k11
            have k12 := y5.keep _ _ _ _ k12
            obtain ⟨e11, f11, g11⟩ := at_open k11
            obtain ⟨e12, f12, g12⟩ := at_open k12
            simp only [push_cast, Nat.reduceAdd, Nat.reduceSub, Nat.reduceMul, Nat.reduceLT, Nat.reduceLeDiff, Nat.reduceEqDiff, Nat.reduceMod, Nat.reduceDiv, Int.reduceAdd, Int.reduceSub, Int.reduceMul, Int.reduceLT, Int.reduceLE, Int.reduceEq, Int.reduceNeg, Int.reduceToNat, reduceIte, reduceCtorEq, f11, g11, f12, g12]
            refine refPut_use y5.marks sl nl ?_
            intro v6 H6 y6 s6
            have sl := y6.sl sl
            have s5 := y6.sl s5
            have lp := mergeR_len l [⟨key, val⟩]
            simp only [push_cast, Nat.reduceAdd, Nat.reduceSub, Nat.reduceMul, Nat.reduceLT, Nat.reduceLeDiff, Nat.reduceEqDiff, Nat.reduceMod, Nat.reduceDiv, Int.reduceAdd, Int.reduceSub, Int.reduceMul, Int.reduceLT, Int.reduceLE, Int.reduceEq, Int.reduceNeg, Int.reduceToNat, reduceIte, reduceCtorEq]
            refine same_use s5 s6 (by omega) (by omega) ?_
            simp only [push_cast, Nat.reduceAdd, Nat.reduceSub, Nat.reduceMul, Nat.reduceLT, Nat.reduceLeDiff, Nat.reduceEqDiff, Nat.reduceMod, Nat.reduceDiv, Int.reduceAdd, Int.reduceSub, Int.reduceMul, Int.reduceLT, Int.reduceLE, Int.reduceEq, Int.reduceNeg, Int.reduceToNat, reduceIte, reduceCtorEq, decide_true, bne_self_eq_false]
            have yy := (yk.trans y5).trans y6
            have hsx := yy.sl hsx
            have s1 := yy.sl s1
            have s2 := yy.sl s2
            simp only [push_cast, Nat.reduceAdd, Nat.reduceSub, Nat.reduceMul, Nat.reduceLT, Nat.reduceLeDiff, Nat.reduceEqDiff, Nat.reduceMod, Nat.reduceDiv, Int.reduceAdd, Int.reduceSub, Int.reduceMul, Int.reduceLT, Int.reduceLE, Int.reduceEq, Int.reduceNeg, Int.reduceToNat, reduceIte, reduceCtorEq, hsx.cells1, s1.cells1, s2.cells1]
            intro b118 hb118
            obtain ⟨H7, hH7⟩ : ∃ H7 : Hp, H7 = ⟨b118, 0, .vec 22 1 3, [u1, u2, vx]⟩ :: H6 := ⟨_, rfl⟩
            have x7 : Ext H6 H7 := by rw [hH7]; exact Ext.cons y6.marks rfl hb118
            have hq2 : ∀ i : Nat, i < 3 → ∃ m vm, cellsAt H7 b118 i 1 = some [vm] ∧ SlR H7 m vm ∧ m.length ≤ 2000 := fun i hi => by
              obtain rfl | rfl | rfl : i = 0 ∨ i = 1 ∨ i = 2 := by omega
              · exact ⟨a, u1, by rw [hH7]; simp only [push_cast, Nat.reduceAdd, Nat.reduceSub, Nat.reduceMul, Nat.reduceLT, Nat.reduceLeDiff, Nat.reduceEqDiff, Nat.reduceMod, Nat.reduceDiv, Int.reduceAdd, Int.reduceSub, Int.reduceMul, Int.reduceLT, Int.reduceLE, Int.reduceEq, Int.reduceNeg, Int.reduceToNat, reduceIte, reduceCtorEq], x7.sl s1, by omega⟩
              · exact ⟨b, u2, by rw [hH7]; simp only [push_cast, Nat.reduceAdd, Nat.reduceSub, Nat.reduceMul, Nat.reduceLT, Nat.reduceLeDiff, Nat.reduceEqDiff, Nat.reduceMod, Nat.reduceDiv, Int.reduceAdd, Int.reduceSub, Int.reduceMul, Int.reduceLT, Int.reduceLE, Int.reduceEq, Int.reduceNeg, Int.reduceToNat, reduceIte, reduceCtorEq], x7.sl s2, by omega⟩
              · exact ⟨x, vx, by rw [hH7]; simp only [push_cast, Nat.reduceAdd, Nat.reduceSub, Nat.reduceMul, Nat.reduceLT, Nat.reduceLeDiff, Nat.reduceEqDiff, Nat.reduceMod, Nat.reduceDiv, Int.reduceAdd, Int.reduceSub, Int.reduceMul, Int.reduceLT, Int.reduceLE, Int.reduceEq, Int.reduceNeg, Int.reduceToNat, reduceIte, reduceCtorEq], x7.sl hsx, by omega⟩
            have sl := x7.sl sl
            have m7 := x7.marks
            have yy := yy.trans x7
            rw [← hH7]
            refine loopO gD_ok (pl := plT) Try.mix (X := Nat × Hp)
              (fun s => ([(11, .pointer (some ⟨b11, 0, none⟩)), (12, .pointer (some ⟨b12, 0, none⟩)), (15, .bool true), (16, vx), (17, u1), (18, u2), (22, vl), (65, .slice (some ⟨b65, 0, none⟩) 4 4), (66, .int .i64 4), (67, .int .i64 j), (118, .slice (some ⟨b118, 0, none⟩) 3 3), (119, .int .i64 3), (120, .int .i64 s.1)], s.2))
              (fun s => s.1 ≤ 3 ∧ Ext H7 s.2) (fun s => 3 - s.1) (0, H7) ?_ ?_ (by kernel_rfl) ?_
            · exact ⟨Nat.zero_le _, .refl m7⟩
            · simp only [push_cast, Nat.reduceAdd, Nat.reduceSub, Nat.reduceMul, Nat.reduceLT, Nat.reduceLeDiff, Nat.reduceEqDiff, Nat.reduceMod, Nat.reduceDiv, Int.reduceAdd, Int.reduceSub, Int.reduceMul, Int.reduceLT, Int.reduceLE, Int.reduceEq, Int.reduceNeg, Int.reduceToNat, reduceIte, reduceCtorEq]
            · rintro ⟨i, Hi⟩ ⟨hi, zk⟩
              dsimp only at hi zk ⊢
              rcases Nat.lt_or_ge i 3 with hlt3 | hge3
              · have i3 : (i : Int) < 3 := by omega
                obtain ⟨m, vm, hc118, sm, nm⟩ := hq2 i hlt3
                have sm := zk.sl sm
                have sl := zk.sl sl
                obtain ⟨e118, f118, g118⟩ := at_open (zk.keep _ _ _ _ hc118)
                simp only [push_cast, Nat.reduceAdd, Nat.reduceSub, Nat.reduceMul, Nat.reduceLT, Nat.reduceLeDiff, Nat.reduceEqDiff, Nat.reduceMod, Nat.reduceDiv, Int.reduceAdd, Int.reduceSub, Int.reduceMul, Int.reduceLT, Int.reduceLE, Int.reduceEq, Int.reduceNeg, Int.reduceToNat, reduceIte, reduceCtorEq, i3, hlt3, f118, g118]
                refine merge_use zk.marks sl sm ?_
                intro v8 H8 y8 s8
                have sl := y8.sl sl
                have sm := y8.sl sm
                simp only [push_cast, Nat.reduceAdd, Nat.reduceSub, Nat.reduceMul, Nat.reduceLT, Nat.reduceLeDiff, Nat.reduceEqDiff, Nat.reduceMod, Nat.reduceDiv, Int.reduceAdd, Int.reduceSub, Int.reduceMul, Int.reduceLT, Int.reduceLE, Int.reduceEq, Int.reduceNeg, Int.reduceToNat, reduceIte, reduceCtorEq]
                refine refMerge_use y8.marks sl sm nl nm ?_
                intro v9 H9 y9 s9
                have sl := y9.sl sl
                have sm := y9.sl sm
                simp only [push_cast, Nat.reduceAdd, Nat.reduceSub, Nat.reduceMul, Nat.reduceLT, Nat.reduceLeDiff, Nat.reduceEqDiff, Nat.reduceMod, Nat.reduceDiv, Int.reduceAdd, Int.reduceSub, Int.reduceMul, Int.reduceLT, Int.reduceLE, Int.reduceEq, Int.reduceNeg, Int.reduceToNat, reduceIte, reduceCtorEq]
                refine diff_use y9.marks sl sm ?_
                intro v10 H10 y10 s10
                have sl := y10.sl sl
                have sm := y10.sl sm
                simp only [push_cast, Nat.reduceAdd, Nat.reduceSub, Nat.reduceMul, Nat.reduceLT, Nat.reduceLeDiff, Nat.reduceEqDiff, Nat.reduceMod, Nat.reduceDiv, Int.reduceAdd, Int.reduceSub, Int.reduceMul, Int.reduceLT, Int.reduceLE, Int.reduceEq, Int.reduceNeg, Int.reduceToNat, reduceIte, reduceCtorEq]
                refine refDiff_use y10.marks sl sm nl nm ?_
                intro v11 H11 y11 s11
                have s8 := y11.sl (y10.sl (y9.sl s8))
                have s9 := y11.sl (y10.sl s9)
                have s10 := y11.sl s10
                have lm := mergeR_len l m
                have ld := diffR_len l m
                simp only [push_cast, Nat.reduceAdd, Nat.reduceSub, Nat.reduceMul, Nat.reduceLT, Nat.reduceLeDiff, Nat.reduceEqDiff, Nat.reduceMod, Nat.reduceDiv, Int.reduceAdd, Int.reduceSub, Int.reduceMul, Int.reduceLT, Int.reduceLE, Int.reduceEq, Int.reduceNeg, Int.reduceToNat, reduceIte, reduceCtorEq]
                refine same_use s8 s9 (by omega) (by omega) ?_
                simp only [push_cast, Nat.reduceAdd, Nat.reduceSub, Nat.reduceMul, Nat.reduceLT, Nat.reduceLeDiff, Nat.reduceEqDiff, Nat.reduceMod, Nat.reduceDiv, Int.reduceAdd, Int.reduceSub, Int.reduceMul, Int.reduceLT, Int.reduceLE, Int.reduceEq, Int.reduceNeg, Int.reduceToNat, reduceIte, reduceCtorEq, decide_true, bne_self_eq_false]
                refine same_use s10 s11 (by omega) (by omega) ?_
                simp only [push_cast, Nat.reduceAdd, Nat.reduceSub, Nat.reduceMul, Nat.reduceLT, Nat.reduceLeDiff, Nat.reduceEqDiff, Nat.reduceMod, Nat.reduceDiv, Int.reduceAdd, Int.reduceSub, Int.reduceMul, Int.reduceLT, Int.reduceLE, Int.reduceEq, Int.reduceNeg, Int.reduceToNat, reduceIte, reduceCtorEq, decide_true, bne_self_eq_false, wrap_i64' (show -9223372036854775808 ≤ (i : Int) + 1 ∧ (i : Int) + 1 ≤ 9223372036854775807 by omega)]
                refine ⟨(i + 1, H11), ⟨by dsimp only; omega, (((zk.trans y8).trans y9).trans y10).trans y11⟩, by dsimp only; omega, ?_⟩
                simp only [push_cast, Nat.reduceAdd, Nat.reduceSub, Nat.reduceMul, Nat.reduceLT, Nat.reduceLeDiff, Nat.reduceEqDiff, Nat.reduceMod, Nat.reduceDiv, Int.reduceAdd, Int.reduceSub, Int.reduceMul, Int.reduceLT, Int.reduceLE, Int.reduceEq, Int.reduceNeg, Int.reduceToNat, reduceIte, reduceCtorEq]
              · have i3 : ¬ (i : Int) < 3 := by omega
                simp only [push_cast, Nat.reduceAdd, Nat.reduceSub, Nat.reduceMul, Nat.reduceLT, Nat.reduceLeDiff, Nat.reduceEqDiff, Nat.reduceMod, Nat.reduceDiv, Int.reduceAdd, Int.reduceSub, Int.reduceMul, Int.reduceLT, Int.reduceLE, Int.reduceEq, Int.reduceNeg, Int.reduceToNat, reduceIte, reduceCtorEq, i3, wrap_i64' (show -9223372036854775808 ≤ (j : Int) + 1 ∧ (j : Int) + 1 ≤ 9223372036854775807 by omega)]
                refine ⟨(j + 1, Hi), ⟨by dsimp only; omega, yy.trans zk⟩, by dsimp only; omega, ?_⟩
                simp only [push_cast, Nat.reduceAdd, Nat.reduceSub, Nat.reduceMul, Nat.reduceLT, Nat.reduceLeDiff, Nat.reduceEqDiff, Nat.reduceMod, Nat.reduceDiv, Int.reduceAdd, Int.reduceSub, Int.reduceMul, Int.reduceLT, Int.reduceLE, Int.reduceEq, Int.reduceNeg, Int.reduceToNat, reduceIte, reduceCtorEq]
          · have j4 : ¬ (j : Int) < 4 := by omega
            simp only [push_cast, Nat.reduceAdd, Nat.reduceSub, Nat.reduceMul, Nat.reduceLT, Nat.reduceLeDiff, Nat.reduceEqDiff, Nat.reduceMod, Nat.reduceDiv, Int.reduceAdd, Int.reduceSub, Int.reduceMul, Int.reduceLT, Int.reduceLE, Int.reduceEq, Int.reduceNeg, Int.reduceToNat, reduceIte, reduceCtorEq, j4]
end Go.Proofs.Ytfjenfjfiinjmaa
