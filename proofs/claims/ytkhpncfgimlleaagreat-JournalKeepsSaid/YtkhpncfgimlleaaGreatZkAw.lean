/- Texts of this claim, merged by program: Vm. -/
import Derived.Test.YtkhpncfgimlleaaGreatZkAv
set_option linter.unusedSimpArgs false
set_option linter.unusedVariables false
namespace Go.Ev
theorem OutG.cap2 {e s n : Nat} {cs : List Value} {p : Option Addr} {c : Nat} {N : Hp} (h : OutG e s cs n (.slice p n c) N) : n ≤ c ∧ (p = none ∨ ∃ b, p = some ⟨b, 0, none⟩) := by
  rcases h with ⟨rfl, _, hv, _⟩ | ⟨b, c', hv, h1, _, _⟩
  · cases hv; exact ⟨Nat.le_refl _, .inl rfl⟩
  · cases hv; exact ⟨h1, .inr ⟨b, rfl⟩⟩
theorem slAddr0 {p : Option Addr} {c s : Nat} (h : p = none ∨ ∃ b, p = some ⟨b, 0, none⟩) : slAddr p c 0 s = p := by
  unfold slAddr
  rcases h with rfl | ⟨b, rfl⟩
  · split <;> rfl
  · split
    · rfl
    · simp
theorem LiR.drop {α : Type} {c : α → List Value} {s : Nat} {H : Hp} {l : List α} {p : Option Addr} {n k : Nat} (hs : ∀ x, (c x).length = s) (h : LiR c s H l (.slice p n k)) (hnk : n ≤ k) (hp : p = none ∨ ∃ b, p = some ⟨b, 0, none⟩) {m : Nat} (hm : m ≤ l.length) : LiR c s H (l.drop m) (.slice (slAddr p k m s) (n - m) (k - m)) := by
  obtain ⟨p', k', hv, h1⟩ := h
  cases hv
  refine ⟨_, k - m, by rw [List.length_drop], ?_⟩
  by_cases hml : m = l.length
  · exact .inl (by rw [hml, List.drop_length])
  have hmk : ¬ k = m := by omega
  rcases h1 with h1 | ⟨b, o, rfl, h1⟩
  · subst h1; exact absurd (Nat.le_zero.1 hm) hml
  obtain rfl : o = 0 := by
    rcases hp with hp | ⟨b', hp⟩
    · cases hp
    · cases hp; rfl
  refine .inr ⟨b, 0 + m * s, by unfold slAddr; rw [if_neg hmk], ?_⟩
  have hdr : (l.drop m).flatMap c = (l.flatMap c).drop (m * s) := by
    have h0 : l.flatMap c = (l.take m).flatMap c ++ (l.drop m).flatMap c := by rw [← List.flatMap_append, List.take_append_drop]
    have h2 : ((l.take m).flatMap c).length = m * s := by rw [flatMap_len hs, List.length_take, Nat.min_eq_left hm]
    rw [h0, List.drop_append_of_le_length (Nat.le_of_eq h2.symm), List.drop_of_length_le (Nat.le_of_eq h2)]; rfl
  have hle : m * s + (l.length - m) * s = l.length * s := by rw [← Nat.add_mul]; congr 1; omega
  rw [hdr, List.length_drop]
  unfold cellsAt at h1 ⊢
  cases he : findE H b with
  | none => rw [he] at h1; cases h1
  | some e =>
    rw [he] at h1
    dsimp only at h1 ⊢
    by_cases ho : e.off ≤ 0
    · rw [if_pos ho] at h1
      rw [if_pos (by omega)]
      unfold subL at h1 ⊢
      by_cases h2 : 0 - e.off + l.length * s ≤ e.cells.length
      · rw [if_pos h2] at h1
        rw [if_pos (by omega)]
        have h1 := Option.some.inj h1
        rw [← h1, List.drop_take, List.drop_drop]
        congr 2
        · omega
        · congr 1; omega
      · rw [if_neg h2] at h1; cases h1
    · rw [if_neg ho] at h1; cases h1
end Go.Ev
namespace Go.Proofs.YtkhpncfgimlleaaGreat
open Go Go.Ev Go.Proofs
set_option maxRecDepth 100000
set_option maxHeartbeats 4000000
def plKeep : Plans := fun i => if i = 9 then [(0, 9)] else if i = 10 then [] else if i = 11 then [(0, 9)] else if i = 12 then [] else if i = 13 then [(0, 9)] else if i = 15 then [(0, 9)] else Tryz.pl5 i
attribute [push_cast] plKeep
attribute [-push_cast] slAddr evAppend_nil
theorem sameT {A : Hp} {j : Jo} {v u : Value} (h : RiJ j) (h1 : JoR j v A) (h2 : JoR j u A) (hA : marksOf A = []) : CallsV Tryz.prog 15 [v, u] A (Ret0 (.bool true)) := by
  have hl := h.st.len
  have hu := h.ul
  have hm := h.ml
  have := sameJ_ok h1 h2 hA (by omega) (by omega) (fun y hy => by have := (mayA_slots (h.st.may y hy)).len; omega) (fun y hy => by have := (mayA_slots (h.st.may y hy)).len; omega) (by omega) (by omega)
  rw [decide_eq_true rfl] at this
  exact this
theorem journalKeeps_ok {M : Hp} {s : List R4} {l : List R5} {cs : List R4} {a : Int} {v u w : Value} (hm : marksOf M = []) (hv : LiR R4.cells 4 M s v) (hu : LiR R5.cells 5 M l u) (hw : LiR R4.cells 4 M cs w) (ha : i64In a) (is : ∀ r ∈ s, r.In) (il : ∀ r ∈ l, r.In) (ic : ∀ r ∈ cs, r.In) : CallsV Tryz.prog 5 [v, u, w, .int .i64 a] M (Ret0 (.bool true)) := by
  have hrj := journalR_ri s l
  have hsh := journalR_sh s l
  have hfw := journalR_few s l
  obtain ⟨j, hj⟩ : ∃ j, j = journalR s l := ⟨_, rfl⟩
  have hc := jour_ok hv hu is il
  rw [← hj] at hrj hsh hc hfw
  obtain ⟨hml, hul⟩ := hsh
  obtain ⟨ps, ks, rfl⟩ := hv.slice
  obtain ⟨pu, ku, rfl⟩ := hu.slice
  obtain ⟨p, k, rfl, hla⟩ := hw.openC R4.len (by decide)
  refine callsO gV4_ok Tryz.mix plKeep Tryz.func5 rfl Tryz.ntmps5 Tryz.results5 rfl (by first | rfl | assumption) (Nat.le_of_ble_eq_true rfl) (by kernel_rfl) ?_
  simp only [push_cast, Nat.reduceAdd, Nat.reduceSub, Nat.reduceMul, Nat.reduceLT, Nat.reduceLeDiff, Nat.reduceEqDiff, Nat.reduceMod, Nat.reduceDiv, Int.reduceAdd, Int.reduceSub, Int.reduceMul, Int.reduceLT, Int.reduceLE, Int.reduceEq, Int.reduceNeg, Int.reduceToNat, reduceIte, reduceCtorEq, Int.reduceBEq, Int.reduceBNe]
  refine useL [] hc (JoR.rd _) hm trivial fun w M1 hg1 hL1 hj1 => ?_
  obtain ⟨p1, q1, p1', q1', p1'', q1'', rfl⟩ := hj1.e3
  simp only [push_cast, Nat.reduceAdd, Nat.reduceSub, Nat.reduceMul, Nat.reduceLT, Nat.reduceLeDiff, Nat.reduceEqDiff, Nat.reduceMod, Nat.reduceDiv, Int.reduceAdd, Int.reduceSub, Int.reduceMul, Int.reduceLT, Int.reduceLE, Int.reduceEq, Int.reduceNeg, Int.reduceToNat, reduceIte, reduceCtorEq, Int.reduceBEq, Int.reduceBNe]
  intro b10 hb10
  have f10 : fresh b10 M1 := hb10
  have hm1 := hg1.marks
  refine loopO gV4_ok (pl := plKeep) Tryz.mix (X := {x : (Nat × Value) × Hp // freshN x.2 M1 ∧ fresh b10 (x.2 ++ M1)})
    (fun x => ([(2, .slice p cs.length k), (3, .int .i64 a), (9, .bool true), (10, .pointer (some ⟨b10, 0, none⟩)), (11, x.1.1.2), (12, .int .i64 x.1.1.1)], ⟨b10, 0, .cel 37, [.slice p1 j.state.length q1, .slice p1' j.undo.length q1', .slice p1'' j.marks.length q1'']⟩ :: (x.1.2 ++ M1)))
    (fun x => x.1.1.1 ≤ cs.length ∧ x.1.1.1 ≤ 8 ∧ OutG 31 31 (((cs.take x.1.1.1).map chR).flatMap Ch.cells) x.1.1.1 x.1.1.2 x.1.2) (fun x => cs.length - x.1.1.1) ⟨((0, .slice none 0 0), []), trivial, f10⟩ ?_ ?_ (by kernel_rfl) ?_
  · exact ⟨Nat.zero_le _, Nat.zero_le _, .inl ⟨rfl, rfl, rfl, rfl⟩⟩
  · simp only [push_cast, Nat.reduceAdd, Nat.reduceSub, Nat.reduceMul, Nat.reduceLT, Nat.reduceLeDiff, Nat.reduceEqDiff, Nat.reduceMod, Nat.reduceDiv, Int.reduceAdd, Int.reduceSub, Int.reduceMul, Int.reduceLT, Int.reduceLE, Int.reduceEq, Int.reduceNeg, Int.reduceToNat, reduceIte, reduceCtorEq, Int.reduceBEq, Int.reduceBNe]
  · rintro ⟨⟨⟨ix, vl⟩, N⟩, hfN, q10⟩ ⟨hi, hlim, ho⟩
    dsimp only at hi hlim ho hfN q10 ⊢
    obtain ⟨pl, cl, rfl⟩ := ho.slice
    have hlen : ((cs.take ix).map chR).length = ix := by rw [List.length_map, List.length_take]; omega
    by_cases hc : ix < cs.length ∧ ix < 8
    · obtain ⟨hlt, hl8⟩ := hc
      obtain ⟨r, hr'⟩ : ∃ r, cs[ix]? = some r := ⟨cs[ix], List.getElem?_eq_getElem hlt⟩
      obtain ⟨ia, ib, ic', id⟩ := ic r (List.mem_of_getElem? hr')
      rcases hla with rfl | ⟨b, f, d, kd, cc, rfl, hfe, hat⟩
      · simp at hlt
      obtain ⟨a1, a2⟩ := hat ix r hr'
      rw [show r.cells = [.int .i64 r.a, .int .i64 r.b, .int .i64 r.c, .int .i64 r.d] from rfl] at a2
      have hee : findE (N ++ M1) b = some ⟨b, f, kd, cc⟩ := find_behind hfN _ _ (hg1.find hfe)
      have m10 := (fresh_findS q10 hee).2
      have i1 : (ix : Int) < (cs.length : Int) := by omega
      have i2 : (ix : Int) < 8 := by omega
      have e3 : -9223372036854775808 ≤ (ix : Int) + 1 ∧ (ix : Int) + 1 ≤ 9223372036854775807 := by omega
      have hs1 : (cs.take (ix + 1)).map chR = (cs.take ix).map chR ++ [chR r] := by
        rw [List.take_add_one, hr', List.map_append]; rfl
      simp only [push_cast, Nat.reduceAdd, Nat.reduceSub, Nat.reduceMul, Nat.reduceLT, Nat.reduceLeDiff, Nat.reduceEqDiff, Nat.reduceMod, Nat.reduceDiv, Int.reduceAdd, Int.reduceSub, Int.reduceMul, Int.reduceLT, Int.reduceLE, Int.reduceEq, Int.reduceNeg, Int.reduceToNat, reduceIte, reduceCtorEq, Int.reduceBEq, Int.reduceBNe, i1, i2, hlt, hl8, hee, a1, a2, ia, ib, ic', id, m10]
      intro bs hbs
      have ho' : OutG 31 31 (((cs.take ix).map chR).flatMap Ch.cells) ((cs.take ix).map chR).length (.slice pl ix cl) N := by rw [hlen]; exact ho
      have zs : fresh bs N := (fresh_app_iff.1 hbs.2.2).1
      have z10 : fresh b10 N := (fresh_app_iff.1 q10).1
      refine push_gA (P := Tryz.prog) [_] (by_ := 120) (q := 31) (ag := true) ho' ⟨zs, z10, trivial⟩ (by simp only [push_cast, Nat.reduceAdd, Nat.reduceSub, Nat.reduceMul, Nat.reduceLT, Nat.reduceLeDiff, Nat.reduceEqDiff, Nat.reduceMod, Nat.reduceDiv, Int.reduceAdd, Int.reduceSub, Int.reduceMul, Int.reduceLT, Int.reduceLE, Int.reduceEq, Int.reduceNeg, Int.reduceToNat, reduceIte, reduceCtorEq, Int.reduceBEq, Int.reduceBNe]) (by simp only [push_cast, Nat.reduceAdd, Nat.reduceSub, Nat.reduceMul, Nat.reduceLT, Nat.reduceLeDiff, Nat.reduceEqDiff, Nat.reduceMod, Nat.reduceDiv, Int.reduceAdd, Int.reduceSub, Int.reduceMul, Int.reduceLT, Int.reduceLE, Int.reduceEq, Int.reduceNeg, Int.reduceToNat, reduceIte, reduceCtorEq, Int.reduceBEq, Int.reduceBNe]) (chR r).len (by have := chAll [chR r]; simpa using this) (by unfold two47; omega) fun v3 N3 ho4 hf4 => ?_
      obtain ⟨p3, k3, hv3⟩ := ho4.slice
      subst hv3
      rcases ho4 with ⟨r1, -⟩ | ⟨bu, cu, r3, r4, r5, hN3⟩
      · rw [List.length_append] at r1; simp at r1
      have hl2 : ((cs.take ix).map chR ++ [chR r]).length = ix + 1 := by rw [List.length_append, hlen]; rfl
      rw [hl2] at r3 r4 r5
      obtain ⟨hq3, -⟩ := (show freshN [⟨bu, 0, .vec 31 31 cu, ((cs.take ix).map chR ++ [chR r]).flatMap Ch.cells⟩] _ from hN3 ▸ hf4)
      rw [hN3]
      have hbu := hq3
      simp only [push_cast, Nat.reduceAdd, Nat.reduceSub, Nat.reduceMul, Nat.reduceLT, Nat.reduceLeDiff, Nat.reduceEqDiff, Nat.reduceMod, Nat.reduceDiv, Int.reduceAdd, Int.reduceSub, Int.reduceMul, Int.reduceLT, Int.reduceLE, Int.reduceEq, Int.reduceNeg, Int.reduceToNat, reduceIte, reduceCtorEq, Int.reduceBEq, Int.reduceBNe] at hbu
      simp only [push_cast, Nat.reduceAdd, Nat.reduceSub, Nat.reduceMul, Nat.reduceLT, Nat.reduceLeDiff, Nat.reduceEqDiff, Nat.reduceMod, Nat.reduceDiv, Int.reduceAdd, Int.reduceSub, Int.reduceMul, Int.reduceLT, Int.reduceLE, Int.reduceEq, Int.reduceNeg, Int.reduceToNat, reduceIte, reduceCtorEq, Int.reduceBEq, Int.reduceBNe, hbs, hbu, hl2, wrap_i64' e3]
      obtain ⟨-, -, u10, u10', uM⟩ := hbu
      refine ⟨⟨((ix + 1, .slice p3 (ix + 1) k3), [⟨bu, 0, .vec 31 31 cu, ((cs.take ix).map chR ++ [chR r]).flatMap Ch.cells⟩]), ⟨uM, trivial⟩, ⟨u10', u10, f10⟩⟩, ⟨hlt, by dsimp only; omega, ?_⟩, by dsimp only; omega, ⟨rfl, rfl⟩, ⟨by simp [findE], ?_⟩, by simp [marksOf]⟩
      · dsimp only
        rw [hs1]
        exact .inr ⟨bu, cu, r3, r4, r5, rfl⟩
      · simp only [remE, if_true]
        exact subH_cons (fresh_app_iff.1 hbs.2.2).2
    · obtain ⟨r4, hr4⟩ : ∃ r4, r4 = cs.take ix := ⟨_, rfl⟩
      rw [← hr4] at ho hlen
      have hl4 : r4.length = ix := by rw [← hlen, List.length_map]
      obtain ⟨hcl, hpl⟩ : ix ≤ cl ∧ (pl = none ∨ ∃ b, pl = some ⟨b, 0, none⟩) := ho.cap2
      obtain ⟨Mq, hMq⟩ : ∃ Mq, Mq = N ++ M1 := ⟨_, rfl⟩
      have hmq : marksOf Mq = [] := by rw [hMq, marks_append, ho.wr.2, hm1]; rfl
      have hjq : JoR j (.agg #[.slice p1 j.state.length q1, .slice p1' j.undo.length q1', .slice p1'' j.marks.length q1'']) Mq := hMq ▸ hj1.app hfN
      have hLq : LiR Ch.cells 31 Mq (r4.map chR) (.slice pl ix cl) := hMq ▸ ho.liR hlen.symm rfl M1
      rw [← hMq] at q10 ⊢
      have hn0 : (0 : Int) < (ix : Int) + 1 := by omega
      have hn1 : i64In ((ix : Int) + 1) := ⟨by omega, by omega⟩
      have e3 : -9223372036854775808 ≤ (ix : Int) + 1 ∧ (ix : Int) + 1 ≤ 9223372036854775807 := by omega
      have hkp := pickN_lt a hn0
      obtain ⟨kk, hkk⟩ : ∃ kk, kk = pickN a ((ix : Int) + 1) := ⟨_, rfl⟩
      rw [← hkk] at hkp
      have hkn : kk ≤ ix := by omega
      have k1 : kk ≤ cl := by omega
      have k2 : (kk : Int) ≤ (cl : Int) := by omega
      have k3 : (0 : Int) ≤ (kk : Int) := by omega
      have k4 : kk ≤ ix := hkn
      have k5 : (kk : Int) ≤ (ix : Int) := by omega
      have k6 : 0 ≤ kk := Nat.zero_le _
      obtain ⟨A, B, C, D, H⟩ := keeps_plain hrj hfw ⟨hml, hul⟩ r4 (by omega) kk
      by_cases hlt : ix < cs.length
      have i1 : (ix : Int) < (cs.length : Int) := by omega
      have i2 : ¬ (ix : Int) < 8 := by omega
      have i3 : ¬ ix < 8 := by omega
      simp only [push_cast, Nat.reduceAdd, Nat.reduceSub, Nat.reduceMul, Nat.reduceLT, Nat.reduceLeDiff, Nat.reduceEqDiff, Nat.reduceMod, Nat.reduceDiv, Int.reduceAdd, Int.reduceSub, Int.reduceMul, Int.reduceLT, Int.reduceLE, Int.reduceEq, Int.reduceNeg, Int.reduceToNat, reduceIte, reduceCtorEq, Int.reduceBEq, Int.reduceBNe, i1, i2, hlt, i3, wrap_i64' e3, ha, hn0, hn1, ← hkk]
      rotate_left
      have i1 : ¬ (ix : Int) < (cs.length : Int) := by omega
      simp only [push_cast, Nat.reduceAdd, Nat.reduceSub, Nat.reduceMul, Nat.reduceLT, Nat.reduceLeDiff, Nat.reduceEqDiff, Nat.reduceMod, Nat.reduceDiv, Int.reduceAdd, Int.reduceSub, Int.reduceMul, Int.reduceLT, Int.reduceLE, Int.reduceEq, Int.reduceNeg, Int.reduceToNat, reduceIte, reduceCtorEq, Int.reduceBEq, Int.reduceBNe, i1, hlt, wrap_i64' e3, ha, hn0, hn1, ← hkk]
      all_goals
        refine regO gV4_ok ?_
        simp only [push_cast, Nat.reduceAdd, Nat.reduceSub, Nat.reduceMul, Nat.reduceLT, Nat.reduceLeDiff, Nat.reduceEqDiff, Nat.reduceMod, Nat.reduceDiv, Int.reduceAdd, Int.reduceSub, Int.reduceMul, Int.reduceLT, Int.reduceLE, Int.reduceEq, Int.reduceNeg, Int.reduceToNat, reduceIte, reduceCtorEq, Int.reduceBEq, Int.reduceBNe]
        refine useL [_] (jdo_R hjq hLq hrj (by rw [hlen]; omega)) (JeR.rd _) hmq ⟨q10, trivial⟩ fun w M2 hg2 hL2 hq2 => ?_
        rw [H.a] at hq2
        obtain ⟨w1, rfl, hjA⟩ := hq2
        obtain ⟨p2, q2, p2', q2', p2'', q2'', rfl⟩ := hjA.e3
        simp only [push_cast, Nat.reduceAdd, Nat.reduceSub, Nat.reduceMul, Nat.reduceLT, Nat.reduceLeDiff, Nat.reduceEqDiff, Nat.reduceMod, Nat.reduceDiv, Int.reduceAdd, Int.reduceSub, Int.reduceMul, Int.reduceLT, Int.reduceLE, Int.reduceEq, Int.reduceNeg, Int.reduceToNat, reduceIte, reduceCtorEq, Int.reduceBEq, Int.reduceBNe]
        intro b14 hb14
        have hL14 : freshN [⟨b14, 0, .cel 37, [.slice p2 A.state.length q2, .slice p2' A.undo.length q2', .slice p2'' A.marks.length q2'']⟩, ⟨b10, 0, .cel 37, [.slice p1 j.state.length q1, .slice p1' j.undo.length q1', .slice p1'' j.marks.length q1'']⟩] M2 := ⟨hb14.2.2, hL2⟩
        have hj2 := hjq.ext hg2.ext
        have hLq2 := hLq.ext hg2.ext
        have cB : CallsR Tryz.prog 18 [.agg #[.slice p1 j.state.length q1, .slice p1' j.undo.length q1', .slice p1'' j.marks.length q1''], .slice pl kk cl] M2 (JeR (B, 0)) := by
          have := jdo_R hj2 (LiR.take (fun x => x.len) hLq2 (m := kk) (by rw [hlen]; exact hkn)) hrj (by rw [List.length_take]; omega)
          rw [H.b] at this
          exact this
        have fE10 : findE (⟨b14, 0, .cel 37, [.slice p2 A.state.length q2, .slice p2' A.undo.length q2', .slice p2'' A.marks.length q2'']⟩ :: ⟨b10, 0, .cel 37, [.slice p1 j.state.length q1, .slice p1' j.undo.length q1', .slice p1'' j.marks.length q1'']⟩ :: M2) b10 = some ⟨b10, 0, .cel 37, [.slice p1 j.state.length q1, .slice p1' j.undo.length q1', .slice p1'' j.marks.length q1'']⟩ := by
          simp only [push_cast, Nat.reduceAdd, Nat.reduceSub, Nat.reduceMul, Nat.reduceLT, Nat.reduceLeDiff, Nat.reduceEqDiff, Nat.reduceMod, Nat.reduceDiv, Int.reduceAdd, Int.reduceSub, Int.reduceMul, Int.reduceLT, Int.reduceLE, Int.reduceEq, Int.reduceNeg, Int.reduceToNat, reduceIte, reduceCtorEq, Int.reduceBEq, Int.reduceBNe, hb14]
        refine drawS gV4_ok Tryz.mix [(9, .bool true), (10, .pointer (some ⟨b10, 0, none⟩)), (11, .slice pl ix cl), (13, .int .i64 kk), (14, .pointer (some ⟨b14, 0, none⟩)), (15, .int .i64 0)]
            (fun i val => match i with
              | 0 => val 0 = .agg #[.slice p1 j.state.length q1, .slice p1' j.undo.length q1', .slice p1'' j.marks.length q1'']
              | 1 => val 1 = .slice pl ix cl
              | 2 => val 2 = .int .i64 kk
              | 3 => val 3 = .slice pl kk cl
              | 4 => ∃ p k p' k' p'' k'', val 4 = .tuple #[.agg #[.slice p B.state.length k, .slice p' B.undo.length k', .slice p'' B.marks.length k''], .int .i64 0]
              | 5 => val 5 = val 4 ∧ ∃ p k p' k' p'' k'', val 4 = .tuple #[.agg #[.slice p B.state.length k, .slice p' B.undo.length k', .slice p'' B.marks.length k''], .int .i64 0]
              | 6 => val 5 = .tuple #[val 6, .int .i64 0] ∧ ∃ p k p' k' p'' k'', val 6 = .agg #[.slice p B.state.length k, .slice p' B.undo.length k', .slice p'' B.marks.length k'']
              | 7 => val 7 = .int .i64 0
              | 8 => ∃ b, val 8 = .pointer (some ⟨b, 0, none⟩)
              | 10 => val 10 = .int .i64 0
              | _ => True)
            (fun i val N => match i with
              | 4 => allWr N ∧ marksOf N = [] ∧ JeR (B, 0) (val 4) (N ++ M2)
              | 5 => N = []
              | 6 => N = []
              | 8 => ∃ b, val 8 = .pointer (some ⟨b, 0, none⟩) ∧ N = [⟨b, 0, .cel 37, [.slice none 0 0, .slice none 0 0, .slice none 0 0]⟩]
              | 9 => ∃ b p k p' k' p'' k'', val 8 = .pointer (some ⟨b, 0, none⟩) ∧ val 6 = .agg #[.slice p B.state.length k, .slice p' B.undo.length k', .slice p'' B.marks.length k''] ∧ N = [⟨b, 0, .cel 37, [.slice p B.state.length k, .slice p' B.undo.length k', .slice p'' B.marks.length k'']⟩]
              | _ => N = []) (fun i => if i = 9 then [8] else []) [4, 9] (by kernel_rfl) (by kernel_rfl) (by kernel_rfl) ?_ (by rfl) (by decide) (by kernel_rfl) ?_ ?_ ?_ ?_ ?_
        · simp only [push_cast, Nat.reduceAdd, Nat.reduceSub, Nat.reduceMul, Nat.reduceLT, Nat.reduceLeDiff, Nat.reduceEqDiff, Nat.reduceMod, Nat.reduceDiv, Int.reduceAdd, Int.reduceSub, Int.reduceMul, Int.reduceLT, Int.reduceLE, Int.reduceEq, Int.reduceNeg, Int.reduceToNat, reduceIte, reduceCtorEq, Int.reduceBEq, Int.reduceBNe, subT]
        · intro i hi hiF
          replace hi : i < 11 := hi
          obtain rfl | rfl | rfl | rfl | rfl | rfl | rfl | rfl | rfl | rfl | rfl : i = 0 ∨ i = 1 ∨ i = 2 ∨ i = 3 ∨ i = 4 ∨ i = 5 ∨ i = 6 ∨ i = 7 ∨ i = 8 ∨ i = 9 ∨ i = 10 := by omega
          all_goals first
            | exact .inl fun _ _ h => h
            | exact absurd (by decide) hiF
            | exact .inr (by kernel_rfl)
        · intro i o ho val val' h1 h2 hV
          have hi := (Array.getElem?_eq_some_iff.1 ho).1
          replace hi : i < 11 := hi
          obtain rfl | rfl | rfl | rfl | rfl | rfl | rfl | rfl | rfl | rfl | rfl : i = 0 ∨ i = 1 ∨ i = 2 ∨ i = 3 ∨ i = 4 ∨ i = 5 ∨ i = 6 ∨ i = 7 ∨ i = 8 ∨ i = 9 ∨ i = 10 := by omega
          · first
              | exact trivial
              | exact hV
              | exact h1.trans hV
              | (rw [h1]; exact hV)
          · first
              | exact trivial
              | exact hV
              | exact h1.trans hV
              | (rw [h1]; exact hV)
          · first
              | exact trivial
              | exact hV
              | exact h1.trans hV
              | (rw [h1]; exact hV)
          · first
              | exact trivial
              | exact hV
              | exact h1.trans hV
              | (rw [h1]; exact hV)
          · first
              | exact trivial
              | exact hV
              | exact h1.trans hV
              | (rw [h1]; exact hV)
          · simp only [List.getElem?_toArray, List.getElem?_cons_zero, List.getElem?_cons_succ, Option.some.injEq] at ho; subst ho
            have e4 := h2 4 (by kernel_rfl)
            rw [h1, e4]
            exact hV
          · simp only [List.getElem?_toArray, List.getElem?_cons_zero, List.getElem?_cons_succ, Option.some.injEq] at ho; subst ho
            have e5 := h2 5 (by kernel_rfl)
            rw [h1, e5]
            exact hV
          · first
              | exact trivial
              | exact hV
              | exact h1.trans hV
              | (rw [h1]; exact hV)
          · first
              | exact trivial
              | exact hV
              | exact h1.trans hV
              | (rw [h1]; exact hV)
          · first
              | exact trivial
              | exact hV
              | exact h1.trans hV
              | (rw [h1]; exact hV)
          · first
              | exact trivial
              | exact hV
              | exact h1.trans hV
              | (rw [h1]; exact hV)
        · intro i o ho val val' N h1 h2 hQ
          have hi := (Array.getElem?_eq_some_iff.1 ho).1
          replace hi : i < 11 := hi
          obtain rfl | rfl | rfl | rfl | rfl | rfl | rfl | rfl | rfl | rfl | rfl : i = 0 ∨ i = 1 ∨ i = 2 ∨ i = 3 ∨ i = 4 ∨ i = 5 ∨ i = 6 ∨ i = 7 ∨ i = 8 ∨ i = 9 ∨ i = 10 := by omega
          · first
              | exact trivial
              | exact hQ
              | exact h1.trans hQ
              | (rw [h1]; exact hQ)
          · first
              | exact trivial
              | exact hQ
              | exact h1.trans hQ
              | (rw [h1]; exact hQ)
          · first
              | exact trivial
              | exact hQ
              | exact h1.trans hQ
              | (rw [h1]; exact hQ)
          · first
              | exact trivial
              | exact hQ
              | exact h1.trans hQ
              | (rw [h1]; exact hQ)
          · first
              | exact trivial
              | exact hQ
              | exact h1.trans hQ
              | (rw [h1]; exact hQ)
          · first
              | exact trivial
              | exact hQ
              | exact h1.trans hQ
              | (rw [h1]; exact hQ)
          · first
              | exact trivial
              | exact hQ
              | exact h1.trans hQ
              | (rw [h1]; exact hQ)
          · first
              | exact trivial
              | exact hQ
              | exact h1.trans hQ
              | (rw [h1]; exact hQ)
          · first
              | exact trivial
              | exact hQ
              | exact h1.trans hQ
              | (rw [h1]; exact hQ)
          · simp only [List.getElem?_toArray, List.getElem?_cons_zero, List.getElem?_cons_succ, Option.some.injEq] at ho; subst ho
            have e6 := h2 6 (by kernel_rfl)
            have e8 := h2 8 (by kernel_rfl)
            rw [e6, e8]
            exact hQ
          · first
              | exact trivial
              | exact hQ
              | exact h1.trans hQ
              | (rw [h1]; exact hQ)
        · intro i o ho T' Y val mem hT hdep hus hfr hY hmY hapY
          have hi := (Array.getElem?_eq_some_iff.1 ho).1
          replace hi : i < 11 := hi
          have yj := hY _ _ fE10
          have tj : getT T' 10 = some (.pointer (some ⟨b10, 0, none⟩)) := hT.2.1
          have t11 : getT T' 11 = some (.slice pl ix cl) := hT.2.2.1
          have t13 : getT T' 13 = some (.int .i64 kk) := hT.2.2.2.1
          obtain rfl | rfl | rfl | rfl | rfl | rfl | rfl | rfl | rfl | rfl | rfl : i = 0 ∨ i = 1 ∨ i = 2 ∨ i = 3 ∨ i = 4 ∨ i = 5 ∨ i = 6 ∨ i = 7 ∨ i = 8 ∨ i = 9 ∨ i = 10 := by omega
          · simp only [List.getElem?_toArray, List.getElem?_cons_zero, List.getElem?_cons_succ, Option.some.injEq] at ho; subst ho
            simp only [push_cast, Nat.reduceAdd, Nat.reduceSub, Nat.reduceMul, Nat.reduceLT, Nat.reduceLeDiff, Nat.reduceEqDiff, Nat.reduceMod, Nat.reduceDiv, Int.reduceAdd, Int.reduceSub, Int.reduceMul, Int.reduceLT, Int.reduceLE, Int.reduceEq, Int.reduceNeg, Int.reduceToNat, reduceIte, reduceCtorEq, Int.reduceBEq, Int.reduceBNe, List.flatMap_nil, List.flatMap_cons, List.append_nil, List.nil_append, tj, yj]
            exact ⟨[], rfl, trivial, rfl, upd_self _ _ _, rfl⟩
          · simp only [List.getElem?_toArray, List.getElem?_cons_zero, List.getElem?_cons_succ, Option.some.injEq] at ho; subst ho
            simp only [push_cast, Nat.reduceAdd, Nat.reduceSub, Nat.reduceMul, Nat.reduceLT, Nat.reduceLeDiff, Nat.reduceEqDiff, Nat.reduceMod, Nat.reduceDiv, Int.reduceAdd, Int.reduceSub, Int.reduceMul, Int.reduceLT, Int.reduceLE, Int.reduceEq, Int.reduceNeg, Int.reduceToNat, reduceIte, reduceCtorEq, Int.reduceBEq, Int.reduceBNe, List.flatMap_nil, List.flatMap_cons, List.append_nil, List.nil_append, t11]
            exact ⟨[], rfl, trivial, rfl, upd_self _ _ _, rfl⟩
          · simp only [List.getElem?_toArray, List.getElem?_cons_zero, List.getElem?_cons_succ, Option.some.injEq] at ho; subst ho
            simp only [push_cast, Nat.reduceAdd, Nat.reduceSub, Nat.reduceMul, Nat.reduceLT, Nat.reduceLeDiff, Nat.reduceEqDiff, Nat.reduceMod, Nat.reduceDiv, Int.reduceAdd, Int.reduceSub, Int.reduceMul, Int.reduceLT, Int.reduceLE, Int.reduceEq, Int.reduceNeg, Int.reduceToNat, reduceIte, reduceCtorEq, Int.reduceBEq, Int.reduceBNe, List.flatMap_nil, List.flatMap_cons, List.append_nil, List.nil_append, t13]
            exact ⟨[], rfl, trivial, rfl, upd_self _ _ _, rfl⟩
          · simp only [List.getElem?_toArray, List.getElem?_cons_zero, List.getElem?_cons_succ, Option.some.injEq] at ho; subst ho
            obtain ⟨v1, g1⟩ := hdep 1 (by kernel_rfl)
            replace g1 := g1 62 rfl
            rw [show val 1 = _ from v1] at g1
            obtain ⟨v2, g2⟩ := hdep 2 (by kernel_rfl)
            replace g2 := g2 63 rfl
            rw [show val 2 = _ from v2] at g2
            simp only [push_cast, Nat.reduceAdd, Nat.reduceSub, Nat.reduceMul, Nat.reduceLT, Nat.reduceLeDiff, Nat.reduceEqDiff, Nat.reduceMod, Nat.reduceDiv, Int.reduceAdd, Int.reduceSub, Int.reduceMul, Int.reduceLT, Int.reduceLE, Int.reduceEq, Int.reduceNeg, Int.reduceToNat, reduceIte, reduceCtorEq, Int.reduceBEq, Int.reduceBNe, List.flatMap_nil, List.flatMap_cons, List.append_nil, List.nil_append, g1, g2, k1, k2, k3, k4, k5, k6, slAddr0 hpl]
            exact ⟨[], rfl, trivial, rfl, upd_self _ _ _, rfl⟩
          · simp only [List.getElem?_toArray, List.getElem?_cons_zero, List.getElem?_cons_succ, Option.some.injEq] at ho; subst ho
            obtain ⟨v0, g0⟩ := hdep 0 (by kernel_rfl)
            replace g0 := g0 61 rfl
            rw [show val 0 = _ from v0] at g0
            obtain ⟨v3, g3⟩ := hdep 3 (by kernel_rfl)
            replace g3 := g3 64 rfl
            rw [show val 3 = _ from v3] at g3
            simp only [push_cast, Nat.reduceAdd, Nat.reduceSub, Nat.reduceMul, Nat.reduceLT, Nat.reduceLeDiff, Nat.reduceEqDiff, Nat.reduceMod, Nat.reduceDiv, Int.reduceAdd, Int.reduceSub, Int.reduceMul, Int.reduceLT, Int.reduceLE, Int.reduceEq, Int.reduceNeg, Int.reduceToNat, reduceIte, reduceCtorEq, Int.reduceBEq, Int.reduceBNe, List.flatMap_nil, List.flatMap_cons, List.append_nil, List.nil_append, g0, g3]
            refine callS (M := M2) cB (JeR.rd _) (fun b e h => hY b e (find_behind (L := [_, _]) hL14 b e h)) fun w N hw hm1 hf hq => ⟨N, rfl, hw, hm1, ?_, ?_⟩
            · obtain ⟨w1, rfl, hj⟩ := hq
              obtain ⟨p, k, p', k', p'', k'', rfl⟩ := hj.e3
              exact ⟨p, k, p', k', p'', k'', by rw [upd_self]⟩
            · rw [upd_self]
              exact ⟨hw, hm1, hq⟩
          · simp only [List.getElem?_toArray, List.getElem?_cons_zero, List.getElem?_cons_succ, Option.some.injEq] at ho; subst ho
            obtain ⟨v4, g4⟩ := hdep 4 (by kernel_rfl)
            replace g4 := g4 65 rfl
            obtain ⟨p, k, p', k', p'', k'', v4⟩ := v4
            have v4 : val 4 = _ := v4
            rw [v4] at g4
            simp only [push_cast, Nat.reduceAdd, Nat.reduceSub, Nat.reduceMul, Nat.reduceLT, Nat.reduceLeDiff, Nat.reduceEqDiff, Nat.reduceMod, Nat.reduceDiv, Int.reduceAdd, Int.reduceSub, Int.reduceMul, Int.reduceLT, Int.reduceLE, Int.reduceEq, Int.reduceNeg, Int.reduceToNat, reduceIte, reduceCtorEq, Int.reduceBEq, Int.reduceBNe, List.flatMap_nil, List.flatMap_cons, List.append_nil, List.nil_append, g4]
            exact ⟨[], rfl, trivial, rfl, ⟨by simp [upd, v4], p, k, p', k', p'', k'', by simp [upd, v4]⟩, rfl⟩
          · simp only [List.getElem?_toArray, List.getElem?_cons_zero, List.getElem?_cons_succ, Option.some.injEq] at ho; subst ho
            obtain ⟨v5, g5⟩ := hdep 5 (by kernel_rfl)
            replace g5 := g5 60 rfl
            obtain ⟨v5, p, k, p', k', p'', k'', v4⟩ := v5
            have v5 : val 5 = _ := v5
            rw [v5, v4] at g5
            simp only [push_cast, Nat.reduceAdd, Nat.reduceSub, Nat.reduceMul, Nat.reduceLT, Nat.reduceLeDiff, Nat.reduceEqDiff, Nat.reduceMod, Nat.reduceDiv, Int.reduceAdd, Int.reduceSub, Int.reduceMul, Int.reduceLT, Int.reduceLE, Int.reduceEq, Int.reduceNeg, Int.reduceToNat, reduceIte, reduceCtorEq, Int.reduceBEq, Int.reduceBNe, List.flatMap_nil, List.flatMap_cons, List.append_nil, List.nil_append, g5]
            exact ⟨[], rfl, trivial, rfl, ⟨by simp [upd, v5, v4], p, k, p', k', p'', k'', by simp [upd]⟩, rfl⟩
          · simp only [List.getElem?_toArray, List.getElem?_cons_zero, List.getElem?_cons_succ, Option.some.injEq] at ho; subst ho
            obtain ⟨v5, g5⟩ := hdep 5 (by kernel_rfl)
            replace g5 := g5 60 rfl
            obtain ⟨v5, p, k, p', k', p'', k'', v4⟩ := v5
            have v5 : val 5 = _ := v5
            rw [v5, v4] at g5
            simp only [push_cast, Nat.reduceAdd, Nat.reduceSub, Nat.reduceMul, Nat.reduceLT, Nat.reduceLeDiff, Nat.reduceEqDiff, Nat.reduceMod, Nat.reduceDiv, Int.reduceAdd, Int.reduceSub, Int.reduceMul, Int.reduceLT, Int.reduceLE, Int.reduceEq, Int.reduceNeg, Int.reduceToNat, reduceIte, reduceCtorEq, Int.reduceBEq, Int.reduceBNe, List.flatMap_nil, List.flatMap_cons, List.append_nil, List.nil_append, g5]
            exact ⟨[], rfl, trivial, rfl, upd_self _ _ _, rfl⟩
          · simp only [List.getElem?_toArray, List.getElem?_cons_zero, List.getElem?_cons_succ, Option.some.injEq] at ho; subst ho
            simp only [push_cast, Nat.reduceAdd, Nat.reduceSub, Nat.reduceMul, Nat.reduceLT, Nat.reduceLeDiff, Nat.reduceEqDiff, Nat.reduceMod, Nat.reduceDiv, Int.reduceAdd, Int.reduceSub, Int.reduceMul, Int.reduceLT, Int.reduceLE, Int.reduceEq, Int.reduceNeg, Int.reduceToNat, reduceIte, reduceCtorEq, Int.reduceBEq, Int.reduceBNe, List.flatMap_nil, List.flatMap_cons, List.append_nil, List.nil_append]
            intro b hf
            exact ⟨[_], rfl, ⟨trivial, trivial⟩, rfl, ⟨b, upd_self _ _ _⟩, b, upd_self _ _ _, rfl⟩
          · simp only [List.getElem?_toArray, List.getElem?_cons_zero, List.getElem?_cons_succ, Option.some.injEq] at ho; subst ho
            obtain ⟨v6, g6⟩ := hdep 6 (by kernel_rfl)
            replace g6 := g6 66 rfl
            obtain ⟨v8, g8⟩ := hdep 8 (by kernel_rfl)
            replace g8 := g8 16 rfl
            obtain ⟨-, p, k, p', k', p'', k'', v6⟩ := v6
            have v6 : val 6 = _ := v6
            rw [v6] at g6
            obtain ⟨b8, v8, hN⟩ := hus 8 (List.mem_singleton.2 rfl)
            have v8 : val 8 = _ := v8
            rw [v8] at g8
            simp only [push_cast, Nat.reduceAdd, Nat.reduceSub, Nat.reduceMul, Nat.reduceLT, Nat.reduceLeDiff, Nat.reduceEqDiff, Nat.reduceMod, Nat.reduceDiv, Int.reduceAdd, Int.reduceSub, Int.reduceMul, Int.reduceLT, Int.reduceLE, Int.reduceEq, Int.reduceNeg, Int.reduceToNat, reduceIte, reduceCtorEq, Int.reduceBEq, Int.reduceBNe, List.flatMap_nil, List.flatMap_cons, List.append_nil, List.nil_append, g6, g8, hN, List.cons_append]
            exact ⟨[_], rfl, ⟨trivial, trivial⟩, rfl, b8, p, k, p', k', p'', k'', by simp [upd, v8], by simp [upd, v6], rfl⟩
          · simp only [List.getElem?_toArray, List.getElem?_cons_zero, List.getElem?_cons_succ, Option.some.injEq] at ho; subst ho
            obtain ⟨v7, g7⟩ := hdep 7 (by kernel_rfl)
            replace g7 := g7 67 rfl
            rw [show val 7 = _ from v7] at g7
            simp only [push_cast, Nat.reduceAdd, Nat.reduceSub, Nat.reduceMul, Nat.reduceLT, Nat.reduceLeDiff, Nat.reduceEqDiff, Nat.reduceMod, Nat.reduceDiv, Int.reduceAdd, Int.reduceSub, Int.reduceMul, Int.reduceLT, Int.reduceLE, Int.reduceEq, Int.reduceNeg, Int.reduceToNat, reduceIte, reduceCtorEq, Int.reduceBEq, Int.reduceBNe, List.flatMap_nil, List.flatMap_cons, List.append_nil, List.nil_append, g7]
            exact ⟨[], rfl, trivial, rfl, upd_self _ _ _, rfl⟩
        · intro val mem hV hQ hap hwr
          obtain ⟨w4, m4, hq4⟩ := hQ 4 (by decide)
          obtain ⟨b16, p3, q3, p3', q3', p3'', q3'', v8, v6, hN9⟩ := hQ 9 (by decide)
          obtain ⟨v56, -⟩ := hV 6 (by decide)
          obtain ⟨v54, -⟩ := hV 5 (by decide)
          have v10 : val 10 = .int .i64 0 := hV 10 (by decide)
          have v8 : val 8 = _ := v8
          have v6 : val 6 = _ := v6
          have v54 : val 5 = val 4 := v54
          have v56 : val 5 = .tuple #[val 6, .int .i64 0] := v56
          rw [← v54, v56, v6] at hq4
          obtain ⟨wM, hwM, hjB⟩ := hq4
          injection hwM with hwM
          have hwM := congrArg Array.toList hwM
          simp only [List.cons.injEq, and_true] at hwM
          obtain rfl := hwM
          have hMM : List.flatMap mem [4, 9] ++ (⟨b14, 0, .cel 37, [.slice p2 A.state.length q2, .slice p2' A.undo.length q2', .slice p2'' A.marks.length q2'']⟩ :: ⟨b10, 0, .cel 37, [.slice p1 j.state.length q1, .slice p1' j.undo.length q1', .slice p1'' j.marks.length q1'']⟩ :: M2) = mem 4 ++ (⟨b16, 0, .cel 37, [.slice p3 B.state.length q3, .slice p3' B.undo.length q3', .slice p3'' B.marks.length q3'']⟩ :: ⟨b14, 0, .cel 37, [.slice p2 A.state.length q2, .slice p2' A.undo.length q2', .slice p2'' A.marks.length q2'']⟩ :: ⟨b10, 0, .cel 37, [.slice p1 j.state.length q1, .slice p1' j.undo.length q1', .slice p1'' j.marks.length q1'']⟩ :: M2) := by
            simp only [List.flatMap_cons, List.flatMap_nil, List.append_nil, hN9, List.append_assoc, List.cons_append, List.nil_append]
          rw [hMM] at hap ⊢
          have a4 := freshN_apart hap w4
          have q4f := freshN_sym a4
          have hap2 := (List.pairwise_append.1 hap).2.1
          have a12 := freshN_apart (A := [⟨b16, 0, .cel 37, [.slice p3 B.state.length q3, .slice p3' B.undo.length q3', .slice p3'' B.marks.length q3'']⟩]) hap2 ⟨trivial, trivial⟩
          have hbN := a12.1
          simp only [push_cast, Nat.reduceAdd, Nat.reduceSub, Nat.reduceMul, Nat.reduceLT, Nat.reduceLeDiff, Nat.reduceEqDiff, Nat.reduceMod, Nat.reduceDiv, Int.reduceAdd, Int.reduceSub, Int.reduceMul, Int.reduceLT, Int.reduceLE, Int.reduceEq, Int.reduceNeg, Int.reduceToNat, reduceIte, reduceCtorEq, Int.reduceBEq, Int.reduceBNe] at hbN
          have hb16 := hbN
          simp only [push_cast, Nat.reduceAdd, Nat.reduceSub, Nat.reduceMul, Nat.reduceLT, Nat.reduceLeDiff, Nat.reduceEqDiff, Nat.reduceMod, Nat.reduceDiv, Int.reduceAdd, Int.reduceSub, Int.reduceMul, Int.reduceLT, Int.reduceLE, Int.reduceEq, Int.reduceNeg, Int.reduceToNat, reduceIte, reduceCtorEq, Int.reduceBEq, Int.reduceBNe, v8, v6, v10]
          refine WpV.perm (H' := ⟨b16, 0, .cel 37, [.slice p3 B.state.length q3, .slice p3' B.undo.length q3', .slice p3'' B.marks.length q3'']⟩ :: ⟨b14, 0, .cel 37, [.slice p2 A.state.length q2, .slice p2' A.undo.length q2', .slice p2'' A.marks.length q2'']⟩ :: ⟨b10, 0, .cel 37, [.slice p1 j.state.length q1, .slice p1' j.undo.length q1', .slice p1'' j.marks.length q1'']⟩ :: (M2 ++ mem 4)) ?_ ?_ ?_
          · exact List.perm_append_comm
          · simp [marksOf, marks_append, m4]
          refine WpV.slots [(9, .bool true), (10, .pointer (some ⟨b10, 0, none⟩)), (11, .slice pl ix cl), (13, .int .i64 kk), (14, .pointer (some ⟨b14, 0, none⟩)), (15, .int .i64 0), (16, .pointer (some ⟨b16, 0, none⟩)), (17, .int .i64 0)] (by simp only [push_cast, Nat.reduceAdd, Nat.reduceSub, Nat.reduceMul, Nat.reduceLT, Nat.reduceLeDiff, Nat.reduceEqDiff, Nat.reduceMod, Nat.reduceDiv, Int.reduceAdd, Int.reduceSub, Int.reduceMul, Int.reduceLT, Int.reduceLE, Int.reduceEq, Int.reduceNeg, Int.reduceToNat, reduceIte, reduceCtorEq, Int.reduceBEq, Int.reduceBNe]) ?_
          obtain ⟨M3, hM3⟩ : ∃ M3, M3 = M2 ++ mem 4 := ⟨_, rfl⟩
          have hg3 : Gr M2 M3 := ⟨hg2.marks, mem 4, hM3, w4, m4⟩
          have f40 := freshN_cons (freshN_cons (freshN_cons (a4)))
          have hjB : JoR B (.agg #[.slice p3 B.state.length q3, .slice p3' B.undo.length q3', .slice p3'' B.marks.length q3'']) M3 := by rw [hM3]; exact JoR.rd _ _ _ _ (cellsAt_swap f40) hjB
          have cb16 : fresh b16 M3 := by rw [hM3]; exact fresh_appS hbN.2.2.2.2 q4f.1
          have hL16 : freshN [⟨b16, 0, .cel 37, [.slice p3 B.state.length q3, .slice p3' B.undo.length q3', .slice p3'' B.marks.length q3'']⟩, ⟨b14, 0, .cel 37, [.slice p2 A.state.length q2, .slice p2' A.undo.length q2', .slice p2'' A.marks.length q2'']⟩, ⟨b10, 0, .cel 37, [.slice p1 j.state.length q1, .slice p1' j.undo.length q1', .slice p1'' j.marks.length q1'']⟩] M3 := ⟨cb16, by rw [hM3]; exact freshN_comb hL14 ⟨q4f.2.1, q4f.2.2.1, trivial⟩⟩
          rw [← hM3]
          refine regO gV4_ok ?_
          simp only [push_cast, Nat.reduceAdd, Nat.reduceSub, Nat.reduceMul, Nat.reduceLT, Nat.reduceLeDiff, Nat.reduceEqDiff, Nat.reduceMod, Nat.reduceDiv, Int.reduceAdd, Int.reduceSub, Int.reduceMul, Int.reduceLT, Int.reduceLE, Int.reduceEq, Int.reduceNeg, Int.reduceToNat, reduceIte, reduceCtorEq, Int.reduceBEq, Int.reduceBNe, hb14, hb16]
          refine useL [_, _, _] (jmark_R hjB H.rb) (JmR.rd _) hg3.marks hL16 fun w M4 hg4 hL4 hq4 => ?_
          rw [H.c] at hq4
          obtain ⟨w1, rfl, hjC⟩ := hq4
          obtain ⟨p4, q4, p4', q4', p4'', q4'', rfl⟩ := hjC.e3
          simp only [push_cast, Nat.reduceAdd, Nat.reduceSub, Nat.reduceMul, Nat.reduceLT, Nat.reduceLeDiff, Nat.reduceEqDiff, Nat.reduceMod, Nat.reduceDiv, Int.reduceAdd, Int.reduceSub, Int.reduceMul, Int.reduceLT, Int.reduceLE, Int.reduceEq, Int.reduceNeg, Int.reduceToNat, reduceIte, reduceCtorEq, Int.reduceBEq, Int.reduceBNe, hb14, hb16]
          intro b18 hb18
          have hL18 : freshN [⟨b18, 0, .cel 37, [.slice p4 C.state.length q4, .slice p4' C.undo.length q4', .slice p4'' C.marks.length q4'']⟩, ⟨b16, 0, .cel 37, [.slice p3 B.state.length q3, .slice p3' B.undo.length q3', .slice p3'' B.marks.length q3'']⟩, ⟨b14, 0, .cel 37, [.slice p2 A.state.length q2, .slice p2' A.undo.length q2', .slice p2'' A.marks.length q2'']⟩, ⟨b10, 0, .cel 37, [.slice p1 j.state.length q1, .slice p1' j.undo.length q1', .slice p1'' j.marks.length q1'']⟩] M4 := ⟨hb18.2.2.2.2.2.2, hL4⟩
          have hLq4 := hLq2.ext (hg3.trans hg4).ext
          have cD : CallsR Tryz.prog 18 [.agg #[.slice p4 C.state.length q4, .slice p4' C.undo.length q4', .slice p4'' C.marks.length q4''], .slice (slAddr pl cl kk 31) (ix - kk) (cl - kk)] M4 (JeR (D, 0)) := by
            have := jdo_R hjC (LiR.drop (fun x => x.len) hLq4 hcl hpl (m := kk) (by rw [hlen]; exact hkn)) H.rc (by rw [List.length_drop]; omega)
            rw [H.d] at this
            exact this
          have fE18 : findE (⟨b18, 0, .cel 37, [.slice p4 C.state.length q4, .slice p4' C.undo.length q4', .slice p4'' C.marks.length q4'']⟩ :: ⟨b16, 0, .cel 37, [.slice p3 B.state.length q3, .slice p3' B.undo.length q3', .slice p3'' B.marks.length q3'']⟩ :: ⟨b14, 0, .cel 37, [.slice p2 A.state.length q2, .slice p2' A.undo.length q2', .slice p2'' A.marks.length q2'']⟩ :: ⟨b10, 0, .cel 37, [.slice p1 j.state.length q1, .slice p1' j.undo.length q1', .slice p1'' j.marks.length q1'']⟩ :: M4) b18 = some ⟨b18, 0, .cel 37, [.slice p4 C.state.length q4, .slice p4' C.undo.length q4', .slice p4'' C.marks.length q4'']⟩ := by
            simp only [push_cast, Nat.reduceAdd, Nat.reduceSub, Nat.reduceMul, Nat.reduceLT, Nat.reduceLeDiff, Nat.reduceEqDiff, Nat.reduceMod, Nat.reduceDiv, Int.reduceAdd, Int.reduceSub, Int.reduceMul, Int.reduceLT, Int.reduceLE, Int.reduceEq, Int.reduceNeg, Int.reduceToNat, reduceIte, reduceCtorEq, Int.reduceBEq, Int.reduceBNe, hb14, hb16, hb18]
          refine drawS gV4_ok Tryz.mix [(9, .bool true), (10, .pointer (some ⟨b10, 0, none⟩)), (11, .slice pl ix cl), (13, .int .i64 kk), (14, .pointer (some ⟨b14, 0, none⟩)), (15, .int .i64 0), (16, .pointer (some ⟨b16, 0, none⟩)), (17, .int .i64 0), (18, .pointer (some ⟨b18, 0, none⟩)), (19, .int .i64 B.marks.length), (20, .int .i64 0)]
              (fun i val => match i with
                | 0 => val 0 = .agg #[.slice p4 C.state.length q4, .slice p4' C.undo.length q4', .slice p4'' C.marks.length q4'']
                | 1 => val 1 = .slice pl ix cl
                | 2 => val 2 = .int .i64 kk
                | 3 => val 3 = .slice (slAddr pl cl kk 31) (ix - kk) (cl - kk)
                | 4 => ∃ p k p' k' p'' k'', val 4 = .tuple #[.agg #[.slice p D.state.length k, .slice p' D.undo.length k', .slice p'' D.marks.length k''], .int .i64 0]
                | 5 => val 5 = val 4 ∧ ∃ p k p' k' p'' k'', val 4 = .tuple #[.agg #[.slice p D.state.length k, .slice p' D.undo.length k', .slice p'' D.marks.length k''], .int .i64 0]
                | 6 => val 5 = .tuple #[val 6, .int .i64 0] ∧ ∃ p k p' k' p'' k'', val 6 = .agg #[.slice p D.state.length k, .slice p' D.undo.length k', .slice p'' D.marks.length k'']
                | 7 => val 7 = .int .i64 0
                | 8 => ∃ b, val 8 = .pointer (some ⟨b, 0, none⟩)
                | 10 => val 10 = .int .i64 0
                | _ => True)
              (fun i val N => match i with
                | 4 => allWr N ∧ marksOf N = [] ∧ JeR (D, 0) (val 4) (N ++ M4)
                | 5 => N = []
                | 6 => N = []
                | 8 => ∃ b, val 8 = .pointer (some ⟨b, 0, none⟩) ∧ N = [⟨b, 0, .cel 37, [.slice none 0 0, .slice none 0 0, .slice none 0 0]⟩]
                | 9 => ∃ b p k p' k' p'' k'', val 8 = .pointer (some ⟨b, 0, none⟩) ∧ val 6 = .agg #[.slice p D.state.length k, .slice p' D.undo.length k', .slice p'' D.marks.length k''] ∧ N = [⟨b, 0, .cel 37, [.slice p D.state.length k, .slice p' D.undo.length k', .slice p'' D.marks.length k'']⟩]
                | _ => N = []) (fun i => if i = 9 then [8] else []) [4, 9] (by kernel_rfl) (by kernel_rfl) (by kernel_rfl) ?_ (by rfl) (by decide) (by kernel_rfl) ?_ ?_ ?_ ?_ ?_
          · simp only [push_cast, Nat.reduceAdd, Nat.reduceSub, Nat.reduceMul, Nat.reduceLT, Nat.reduceLeDiff, Nat.reduceEqDiff, Nat.reduceMod, Nat.reduceDiv, Int.reduceAdd, Int.reduceSub, Int.reduceMul, Int.reduceLT, Int.reduceLE, Int.reduceEq, Int.reduceNeg, Int.reduceToNat, reduceIte, reduceCtorEq, Int.reduceBEq, Int.reduceBNe, subT]
          · intro i hi hiF
            replace hi : i < 11 := hi
            obtain rfl | rfl | rfl | rfl | rfl | rfl | rfl | rfl | rfl | rfl | rfl : i = 0 ∨ i = 1 ∨ i = 2 ∨ i = 3 ∨ i = 4 ∨ i = 5 ∨ i = 6 ∨ i = 7 ∨ i = 8 ∨ i = 9 ∨ i = 10 := by omega
            all_goals first
              | exact .inl fun _ _ h => h
              | exact absurd (by decide) hiF
              | exact .inr (by kernel_rfl)
          · intro i o ho val val' h1 h2 hV
            have hi := (Array.getElem?_eq_some_iff.1 ho).1
            replace hi : i < 11 := hi
            obtain rfl | rfl | rfl | rfl | rfl | rfl | rfl | rfl | rfl | rfl | rfl : i = 0 ∨ i = 1 ∨ i = 2 ∨ i = 3 ∨ i = 4 ∨ i = 5 ∨ i = 6 ∨ i = 7 ∨ i = 8 ∨ i = 9 ∨ i = 10 := by omega
            · first
                | exact trivial
                | exact hV
                | exact h1.trans hV
                | (rw [h1]; exact hV)
            · first
                | exact trivial
                | exact hV
                | exact h1.trans hV
                | (rw [h1]; exact hV)
            · first
                | exact trivial
                | exact hV
                | exact h1.trans hV
                | (rw [h1]; exact hV)
            · first
                | exact trivial
                | exact hV
                | exact h1.trans hV
                | (rw [h1]; exact hV)
            · first
                | exact trivial
                | exact hV
                | exact h1.trans hV
                | (rw [h1]; exact hV)
            · simp only [List.getElem?_toArray, List.getElem?_cons_zero, List.getElem?_cons_succ, Option.some.injEq] at ho; subst ho
              have e4 := h2 4 (by kernel_rfl)
              rw [h1, e4]
              exact hV
            · simp only [List.getElem?_toArray, List.getElem?_cons_zero, List.getElem?_cons_succ, Option.some.injEq] at ho; subst ho
              have e5 := h2 5 (by kernel_rfl)
              rw [h1, e5]
              exact hV
            · first
                | exact trivial
                | exact hV
                | exact h1.trans hV
                | (rw [h1]; exact hV)
            · first
                | exact trivial
                | exact hV
                | exact h1.trans hV
                | (rw [h1]; exact hV)
            · first
                | exact trivial
                | exact hV
                | exact h1.trans hV
                | (rw [h1]; exact hV)
            · first
                | exact trivial
                | exact hV
                | exact h1.trans hV
                | (rw [h1]; exact hV)
          · intro i o ho val val' N h1 h2 hQ
            have hi := (Array.getElem?_eq_some_iff.1 ho).1
            replace hi : i < 11 := hi
            obtain rfl | rfl | rfl | rfl | rfl | rfl | rfl | rfl | rfl | rfl | rfl : i = 0 ∨ i = 1 ∨ i = 2 ∨ i = 3 ∨ i = 4 ∨ i = 5 ∨ i = 6 ∨ i = 7 ∨ i = 8 ∨ i = 9 ∨ i = 10 := by omega
            · first
                | exact trivial
                | exact hQ
                | exact h1.trans hQ
                | (rw [h1]; exact hQ)
            · first
                | exact trivial
                | exact hQ
                | exact h1.trans hQ
                | (rw [h1]; exact hQ)
            · first
                | exact trivial
                | exact hQ
                | exact h1.trans hQ
                | (rw [h1]; exact hQ)
            · first
                | exact trivial
                | exact hQ
                | exact h1.trans hQ
                | (rw [h1]; exact hQ)
            · first
                | exact trivial
                | exact hQ
                | exact h1.trans hQ
                | (rw [h1]; exact hQ)
            · first
                | exact trivial
                | exact hQ
                | exact h1.trans hQ
                | (rw [h1]; exact hQ)
            · first
                | exact trivial
                | exact hQ
                | exact h1.trans hQ
                | (rw [h1]; exact hQ)
            · first
                | exact trivial
                | exact hQ
                | exact h1.trans hQ
                | (rw [h1]; exact hQ)
            · first
                | exact trivial
                | exact hQ
                | exact h1.trans hQ
                | (rw [h1]; exact hQ)
            · simp only [List.getElem?_toArray, List.getElem?_cons_zero, List.getElem?_cons_succ, Option.some.injEq] at ho; subst ho
              have e6 := h2 6 (by kernel_rfl)
              have e8 := h2 8 (by kernel_rfl)
              rw [e6, e8]
              exact hQ
            · first
                | exact trivial
                | exact hQ
                | exact h1.trans hQ
                | (rw [h1]; exact hQ)
          · intro i o ho T' Y val mem hT hdep hus hfr hY hmY hapY
            have hi := (Array.getElem?_eq_some_iff.1 ho).1
            replace hi : i < 11 := hi
            have yj := hY _ _ fE18
            have tj : getT T' 18 = some (.pointer (some ⟨b18, 0, none⟩)) := hT.2.2.2.2.2.2.2.2.1
            have t11 : getT T' 11 = some (.slice pl ix cl) := hT.2.2.1
            have t13 : getT T' 13 = some (.int .i64 kk) := hT.2.2.2.1
            obtain rfl | rfl | rfl | rfl | rfl | rfl | rfl | rfl | rfl | rfl | rfl : i = 0 ∨ i = 1 ∨ i = 2 ∨ i = 3 ∨ i = 4 ∨ i = 5 ∨ i = 6 ∨ i = 7 ∨ i = 8 ∨ i = 9 ∨ i = 10 := by omega
            · simp only [List.getElem?_toArray, List.getElem?_cons_zero, List.getElem?_cons_succ, Option.some.injEq] at ho; subst ho
              simp only [push_cast, Nat.reduceAdd, Nat.reduceSub, Nat.reduceMul, Nat.reduceLT, Nat.reduceLeDiff, Nat.reduceEqDiff, Nat.reduceMod, Nat.reduceDiv, Int.reduceAdd, Int.reduceSub, Int.reduceMul, Int.reduceLT, Int.reduceLE, Int.reduceEq, Int.reduceNeg, Int.reduceToNat, reduceIte, reduceCtorEq, Int.reduceBEq, Int.reduceBNe, List.flatMap_nil, List.flatMap_cons, List.append_nil, List.nil_append, tj, yj]
              exact ⟨[], rfl, trivial, rfl, upd_self _ _ _, rfl⟩
            · simp only [List.getElem?_toArray, List.getElem?_cons_zero, List.getElem?_cons_succ, Option.some.injEq] at ho; subst ho
              simp only [push_cast, Nat.reduceAdd, Nat.reduceSub, Nat.reduceMul, Nat.reduceLT, Nat.reduceLeDiff, Nat.reduceEqDiff, Nat.reduceMod, Nat.reduceDiv, Int.reduceAdd, Int.reduceSub, Int.reduceMul, Int.reduceLT, Int.reduceLE, Int.reduceEq, Int.reduceNeg, Int.reduceToNat, reduceIte, reduceCtorEq, Int.reduceBEq, Int.reduceBNe, List.flatMap_nil, List.flatMap_cons, List.append_nil, List.nil_append, t11]
              exact ⟨[], rfl, trivial, rfl, upd_self _ _ _, rfl⟩
            · simp only [List.getElem?_toArray, List.getElem?_cons_zero, List.getElem?_cons_succ, Option.some.injEq] at ho; subst ho
              simp only [push_cast, Nat.reduceAdd, Nat.reduceSub, Nat.reduceMul, Nat.reduceLT, Nat.reduceLeDiff, Nat.reduceEqDiff, Nat.reduceMod, Nat.reduceDiv, Int.reduceAdd, Int.reduceSub, Int.reduceMul, Int.reduceLT, Int.reduceLE, Int.reduceEq, Int.reduceNeg, Int.reduceToNat, reduceIte, reduceCtorEq, Int.reduceBEq, Int.reduceBNe, List.flatMap_nil, List.flatMap_cons, List.append_nil, List.nil_append, t13]
              exact ⟨[], rfl, trivial, rfl, upd_self _ _ _, rfl⟩
            · simp only [List.getElem?_toArray, List.getElem?_cons_zero, List.getElem?_cons_succ, Option.some.injEq] at ho; subst ho
              obtain ⟨v1, g1⟩ := hdep 1 (by kernel_rfl)
              replace g1 := g1 76 rfl
              rw [show val 1 = _ from v1] at g1
              obtain ⟨v2, g2⟩ := hdep 2 (by kernel_rfl)
              replace g2 := g2 77 rfl
              rw [show val 2 = _ from v2] at g2
              simp only [push_cast, Nat.reduceAdd, Nat.reduceSub, Nat.reduceMul, Nat.reduceLT, Nat.reduceLeDiff, Nat.reduceEqDiff, Nat.reduceMod, Nat.reduceDiv, Int.reduceAdd, Int.reduceSub, Int.reduceMul, Int.reduceLT, Int.reduceLE, Int.reduceEq, Int.reduceNeg, Int.reduceToNat, reduceIte, reduceCtorEq, Int.reduceBEq, Int.reduceBNe, List.flatMap_nil, List.flatMap_cons, List.append_nil, List.nil_append, g1, g2, k1, k2, k3, k4, k5, k6]
              exact ⟨[], rfl, trivial, rfl, upd_self _ _ _, rfl⟩
            · simp only [List.getElem?_toArray, List.getElem?_cons_zero, List.getElem?_cons_succ, Option.some.injEq] at ho; subst ho
              obtain ⟨v0, g0⟩ := hdep 0 (by kernel_rfl)
              replace g0 := g0 75 rfl
              rw [show val 0 = _ from v0] at g0
              obtain ⟨v3, g3⟩ := hdep 3 (by kernel_rfl)
              replace g3 := g3 78 rfl
              rw [show val 3 = _ from v3] at g3
              simp only [push_cast, Nat.reduceAdd, Nat.reduceSub, Nat.reduceMul, Nat.reduceLT, Nat.reduceLeDiff, Nat.reduceEqDiff, Nat.reduceMod, Nat.reduceDiv, Int.reduceAdd, Int.reduceSub, Int.reduceMul, Int.reduceLT, Int.reduceLE, Int.reduceEq, Int.reduceNeg, Int.reduceToNat, reduceIte, reduceCtorEq, Int.reduceBEq, Int.reduceBNe, List.flatMap_nil, List.flatMap_cons, List.append_nil, List.nil_append, g0, g3]
              refine callS (M := M4) cD (JeR.rd _) (fun b e h => hY b e (find_behind (L := [_, _, _, _]) hL18 b e h)) fun w N hw hm1 hf hq => ⟨N, rfl, hw, hm1, ?_, ?_⟩
              · obtain ⟨w1, rfl, hj⟩ := hq
                obtain ⟨p, k, p', k', p'', k'', rfl⟩ := hj.e3
                exact ⟨p, k, p', k', p'', k'', by rw [upd_self]⟩
              · rw [upd_self]
                exact ⟨hw, hm1, hq⟩
            · simp only [List.getElem?_toArray, List.getElem?_cons_zero, List.getElem?_cons_succ, Option.some.injEq] at ho; subst ho
              obtain ⟨v4, g4⟩ := hdep 4 (by kernel_rfl)
              replace g4 := g4 79 rfl
              obtain ⟨p, k, p', k', p'', k'', v4⟩ := v4
              have v4 : val 4 = _ := v4
              rw [v4] at g4
              simp only [push_cast, Nat.reduceAdd, Nat.reduceSub, Nat.reduceMul, Nat.reduceLT, Nat.reduceLeDiff, Nat.reduceEqDiff, Nat.reduceMod, Nat.reduceDiv, Int.reduceAdd, Int.reduceSub, Int.reduceMul, Int.reduceLT, Int.reduceLE, Int.reduceEq, Int.reduceNeg, Int.reduceToNat, reduceIte, reduceCtorEq, Int.reduceBEq, Int.reduceBNe, List.flatMap_nil, List.flatMap_cons, List.append_nil, List.nil_append, g4]
              exact ⟨[], rfl, trivial, rfl, ⟨by simp [upd, v4], p, k, p', k', p'', k'', by simp [upd, v4]⟩, rfl⟩
            · simp only [List.getElem?_toArray, List.getElem?_cons_zero, List.getElem?_cons_succ, Option.some.injEq] at ho; subst ho
              obtain ⟨v5, g5⟩ := hdep 5 (by kernel_rfl)
              replace g5 := g5 74 rfl
              obtain ⟨v5, p, k, p', k', p'', k'', v4⟩ := v5
              have v5 : val 5 = _ := v5
              rw [v5, v4] at g5
              simp only [push_cast, Nat.reduceAdd, Nat.reduceSub, Nat.reduceMul, Nat.reduceLT, Nat.reduceLeDiff, Nat.reduceEqDiff, Nat.reduceMod, Nat.reduceDiv, Int.reduceAdd, Int.reduceSub, Int.reduceMul, Int.reduceLT, Int.reduceLE, Int.reduceEq, Int.reduceNeg, Int.reduceToNat, reduceIte, reduceCtorEq, Int.reduceBEq, Int.reduceBNe, List.flatMap_nil, List.flatMap_cons, List.append_nil, List.nil_append, g5]
              exact ⟨[], rfl, trivial, rfl, ⟨by simp [upd, v5, v4], p, k, p', k', p'', k'', by simp [upd]⟩, rfl⟩
            · simp only [List.getElem?_toArray, List.getElem?_cons_zero, List.getElem?_cons_succ, Option.some.injEq] at ho; subst ho
              obtain ⟨v5, g5⟩ := hdep 5 (by kernel_rfl)
              replace g5 := g5 74 rfl
              obtain ⟨v5, p, k, p', k', p'', k'', v4⟩ := v5
              have v5 : val 5 = _ := v5
              rw [v5, v4] at g5
              simp only [push_cast, Nat.reduceAdd, Nat.reduceSub, Nat.reduceMul, Nat.reduceLT, Nat.reduceLeDiff, Nat.reduceEqDiff, Nat.reduceMod, Nat.reduceDiv, Int.reduceAdd, Int.reduceSub, Int.reduceMul, Int.reduceLT, Int.reduceLE, Int.reduceEq, Int.reduceNeg, Int.reduceToNat, reduceIte, reduceCtorEq, Int.reduceBEq, Int.reduceBNe, List.flatMap_nil, List.flatMap_cons, List.append_nil, List.nil_append, g5]
              exact ⟨[], rfl, trivial, rfl, upd_self _ _ _, rfl⟩
            · simp only [List.getElem?_toArray, List.getElem?_cons_zero, List.getElem?_cons_succ, Option.some.injEq] at ho; subst ho
              simp only [push_cast, Nat.reduceAdd, Nat.reduceSub, Nat.reduceMul, Nat.reduceLT, Nat.reduceLeDiff, Nat.reduceEqDiff, Nat.reduceMod, Nat.reduceDiv, Int.reduceAdd, Int.reduceSub, Int.reduceMul, Int.reduceLT, Int.reduceLE, Int.reduceEq, Int.reduceNeg, Int.reduceToNat, reduceIte, reduceCtorEq, Int.reduceBEq, Int.reduceBNe, List.flatMap_nil, List.flatMap_cons, List.append_nil, List.nil_append]
              intro b hf
              exact ⟨[_], rfl, ⟨trivial, trivial⟩, rfl, ⟨b, upd_self _ _ _⟩, b, upd_self _ _ _, rfl⟩
            · simp only [List.getElem?_toArray, List.getElem?_cons_zero, List.getElem?_cons_succ, Option.some.injEq] at ho; subst ho
              obtain ⟨v6, g6⟩ := hdep 6 (by kernel_rfl)
              replace g6 := g6 80 rfl
              obtain ⟨v8, g8⟩ := hdep 8 (by kernel_rfl)
              replace g8 := g8 21 rfl
              obtain ⟨-, p, k, p', k', p'', k'', v6⟩ := v6
              have v6 : val 6 = _ := v6
              rw [v6] at g6
              obtain ⟨b8, v8, hN⟩ := hus 8 (List.mem_singleton.2 rfl)
              have v8 : val 8 = _ := v8
              rw [v8] at g8
              simp only [push_cast, Nat.reduceAdd, Nat.reduceSub, Nat.reduceMul, Nat.reduceLT, Nat.reduceLeDiff, Nat.reduceEqDiff, Nat.reduceMod, Nat.reduceDiv, Int.reduceAdd, Int.reduceSub, Int.reduceMul, Int.reduceLT, Int.reduceLE, Int.reduceEq, Int.reduceNeg, Int.reduceToNat, reduceIte, reduceCtorEq, Int.reduceBEq, Int.reduceBNe, List.flatMap_nil, List.flatMap_cons, List.append_nil, List.nil_append, g6, g8, hN, List.cons_append]
              exact ⟨[_], rfl, ⟨trivial, trivial⟩, rfl, b8, p, k, p', k', p'', k'', by simp [upd, v8], by simp [upd, v6], rfl⟩
            · simp only [List.getElem?_toArray, List.getElem?_cons_zero, List.getElem?_cons_succ, Option.some.injEq] at ho; subst ho
              obtain ⟨v7, g7⟩ := hdep 7 (by kernel_rfl)
              replace g7 := g7 81 rfl
              rw [show val 7 = _ from v7] at g7
              simp only [push_cast, Nat.reduceAdd, Nat.reduceSub, Nat.reduceMul, Nat.reduceLT, Nat.reduceLeDiff, Nat.reduceEqDiff, Nat.reduceMod, Nat.reduceDiv, Int.reduceAdd, Int.reduceSub, Int.reduceMul, Int.reduceLT, Int.reduceLE, Int.reduceEq, Int.reduceNeg, Int.reduceToNat, reduceIte, reduceCtorEq, Int.reduceBEq, Int.reduceBNe, List.flatMap_nil, List.flatMap_cons, List.append_nil, List.nil_append, g7]
              exact ⟨[], rfl, trivial, rfl, upd_self _ _ _, rfl⟩
          · intro val mem hV hQ hap hwr
            obtain ⟨w4, m4, hq4⟩ := hQ 4 (by decide)
            obtain ⟨b21, p5, q5, p5', q5', p5'', q5'', v8, v6, hN9⟩ := hQ 9 (by decide)
            obtain ⟨v56, -⟩ := hV 6 (by decide)
            obtain ⟨v54, -⟩ := hV 5 (by decide)
            have v10 : val 10 = .int .i64 0 := hV 10 (by decide)
            have v8 : val 8 = _ := v8
            have v6 : val 6 = _ := v6
            have v54 : val 5 = val 4 := v54
            have v56 : val 5 = .tuple #[val 6, .int .i64 0] := v56
            rw [← v54, v56, v6] at hq4
            obtain ⟨wM, hwM, hjD⟩ := hq4
            injection hwM with hwM
            have hwM := congrArg Array.toList hwM
            simp only [List.cons.injEq, and_true] at hwM
            obtain rfl := hwM
            have hMM : List.flatMap mem [4, 9] ++ (⟨b18, 0, .cel 37, [.slice p4 C.state.length q4, .slice p4' C.undo.length q4', .slice p4'' C.marks.length q4'']⟩ :: ⟨b16, 0, .cel 37, [.slice p3 B.state.length q3, .slice p3' B.undo.length q3', .slice p3'' B.marks.length q3'']⟩ :: ⟨b14, 0, .cel 37, [.slice p2 A.state.length q2, .slice p2' A.undo.length q2', .slice p2'' A.marks.length q2'']⟩ :: ⟨b10, 0, .cel 37, [.slice p1 j.state.length q1, .slice p1' j.undo.length q1', .slice p1'' j.marks.length q1'']⟩ :: M4) = mem 4 ++ (⟨b21, 0, .cel 37, [.slice p5 D.state.length q5, .slice p5' D.undo.length q5', .slice p5'' D.marks.length q5'']⟩ :: ⟨b18, 0, .cel 37, [.slice p4 C.state.length q4, .slice p4' C.undo.length q4', .slice p4'' C.marks.length q4'']⟩ :: ⟨b16, 0, .cel 37, [.slice p3 B.state.length q3, .slice p3' B.undo.length q3', .slice p3'' B.marks.length q3'']⟩ :: ⟨b14, 0, .cel 37, [.slice p2 A.state.length q2, .slice p2' A.undo.length q2', .slice p2'' A.marks.length q2'']⟩ :: ⟨b10, 0, .cel 37, [.slice p1 j.state.length q1, .slice p1' j.undo.length q1', .slice p1'' j.marks.length q1'']⟩ :: M4) := by
              simp only [List.flatMap_cons, List.flatMap_nil, List.append_nil, hN9, List.append_assoc, List.cons_append, List.nil_append]
            rw [hMM] at hap ⊢
            have a4 := freshN_apart hap w4
            have q4f := freshN_sym a4
            have hap2 := (List.pairwise_append.1 hap).2.1
            have a12 := freshN_apart (A := [⟨b21, 0, .cel 37, [.slice p5 D.state.length q5, .slice p5' D.undo.length q5', .slice p5'' D.marks.length q5'']⟩]) hap2 ⟨trivial, trivial⟩
            have hbN := a12.1
            simp only [push_cast, Nat.reduceAdd, Nat.reduceSub, Nat.reduceMul, Nat.reduceLT, Nat.reduceLeDiff, Nat.reduceEqDiff, Nat.reduceMod, Nat.reduceDiv, Int.reduceAdd, Int.reduceSub, Int.reduceMul, Int.reduceLT, Int.reduceLE, Int.reduceEq, Int.reduceNeg, Int.reduceToNat, reduceIte, reduceCtorEq, Int.reduceBEq, Int.reduceBNe] at hbN
            have hb21 := hbN
            simp only [push_cast, Nat.reduceAdd, Nat.reduceSub, Nat.reduceMul, Nat.reduceLT, Nat.reduceLeDiff, Nat.reduceEqDiff, Nat.reduceMod, Nat.reduceDiv, Int.reduceAdd, Int.reduceSub, Int.reduceMul, Int.reduceLT, Int.reduceLE, Int.reduceEq, Int.reduceNeg, Int.reduceToNat, reduceIte, reduceCtorEq, Int.reduceBEq, Int.reduceBNe, v8, v6, v10]
            refine WpV.perm (H' := ⟨b21, 0, .cel 37, [.slice p5 D.state.length q5, .slice p5' D.undo.length q5', .slice p5'' D.marks.length q5'']⟩ :: ⟨b18, 0, .cel 37, [.slice p4 C.state.length q4, .slice p4' C.undo.length q4', .slice p4'' C.marks.length q4'']⟩ :: ⟨b16, 0, .cel 37, [.slice p3 B.state.length q3, .slice p3' B.undo.length q3', .slice p3'' B.marks.length q3'']⟩ :: ⟨b14, 0, .cel 37, [.slice p2 A.state.length q2, .slice p2' A.undo.length q2', .slice p2'' A.marks.length q2'']⟩ :: ⟨b10, 0, .cel 37, [.slice p1 j.state.length q1, .slice p1' j.undo.length q1', .slice p1'' j.marks.length q1'']⟩ :: (M4 ++ mem 4)) ?_ ?_ ?_
            · exact List.perm_append_comm
            · simp [marksOf, marks_append, m4]
            refine WpV.slots [(9, .bool true), (10, .pointer (some ⟨b10, 0, none⟩)), (11, .slice pl ix cl), (13, .int .i64 kk), (14, .pointer (some ⟨b14, 0, none⟩)), (15, .int .i64 0), (16, .pointer (some ⟨b16, 0, none⟩)), (17, .int .i64 0), (18, .pointer (some ⟨b18, 0, none⟩)), (19, .int .i64 B.marks.length), (20, .int .i64 0), (21, .pointer (some ⟨b21, 0, none⟩)), (22, .int .i64 0)] (by simp only [push_cast, Nat.reduceAdd, Nat.reduceSub, Nat.reduceMul, Nat.reduceLT, Nat.reduceLeDiff, Nat.reduceEqDiff, Nat.reduceMod, Nat.reduceDiv, Int.reduceAdd, Int.reduceSub, Int.reduceMul, Int.reduceLT, Int.reduceLE, Int.reduceEq, Int.reduceNeg, Int.reduceToNat, reduceIte, reduceCtorEq, Int.reduceBEq, Int.reduceBNe]) ?_
            obtain ⟨M5, hM5⟩ : ∃ M5, M5 = M4 ++ mem 4 := ⟨_, rfl⟩
            have hg5 : Gr M4 M5 := ⟨hg4.marks, mem 4, hM5, w4, m4⟩
            have f40 := freshN_cons (freshN_cons (freshN_cons (freshN_cons (freshN_cons (a4)))))
            have hjD : JoR D (.agg #[.slice p5 D.state.length q5, .slice p5' D.undo.length q5', .slice p5'' D.marks.length q5'']) M5 := by rw [hM5]; exact JoR.rd _ _ _ _ (cellsAt_swap f40) hjD
            have cb21 : fresh b21 M5 := by rw [hM5]; exact fresh_appS hbN.2.2.2.2.2.2.2.2 q4f.1
            have hL21 : freshN [⟨b21, 0, .cel 37, [.slice p5 D.state.length q5, .slice p5' D.undo.length q5', .slice p5'' D.marks.length q5'']⟩, ⟨b18, 0, .cel 37, [.slice p4 C.state.length q4, .slice p4' C.undo.length q4', .slice p4'' C.marks.length q4'']⟩, ⟨b16, 0, .cel 37, [.slice p3 B.state.length q3, .slice p3' B.undo.length q3', .slice p3'' B.marks.length q3'']⟩, ⟨b14, 0, .cel 37, [.slice p2 A.state.length q2, .slice p2' A.undo.length q2', .slice p2'' A.marks.length q2'']⟩, ⟨b10, 0, .cel 37, [.slice p1 j.state.length q1, .slice p1' j.undo.length q1', .slice p1'' j.marks.length q1'']⟩] M5 := ⟨cb21, by rw [hM5]; exact freshN_comb hL18 ⟨q4f.2.1, q4f.2.2.1, q4f.2.2.2.1, q4f.2.2.2.2.1, trivial⟩⟩
            rw [← hM5]
            refine regO gV4_ok ?_
            simp only [push_cast, Nat.reduceAdd, Nat.reduceSub, Nat.reduceMul, Nat.reduceLT, Nat.reduceLeDiff, Nat.reduceEqDiff, Nat.reduceMod, Nat.reduceDiv, Int.reduceAdd, Int.reduceSub, Int.reduceMul, Int.reduceLT, Int.reduceLE, Int.reduceEq, Int.reduceNeg, Int.reduceToNat, reduceIte, reduceCtorEq, Int.reduceBEq, Int.reduceBNe, hb14, hb16, hb18, hb21]
            refine useL [_, _, _, _, _] (jkeepJ_R (m := (B.marks.length : Nat)) hjD H.rd) (JeC.rd _) hg5.marks hL21 fun w M6 hg6 hL6 hq6 => ?_
            rw [H.x] at hq6
            obtain ⟨v1, pw, kw, v3, rfl, -, hjX⟩ := hq6
            obtain ⟨p6, q6, p6', q6', p6'', q6'', hve⟩ := hjX.e3
            rw [hve] at hjX ⊢
            simp only [push_cast, Nat.reduceAdd, Nat.reduceSub, Nat.reduceMul, Nat.reduceLT, Nat.reduceLeDiff, Nat.reduceEqDiff, Nat.reduceMod, Nat.reduceDiv, Int.reduceAdd, Int.reduceSub, Int.reduceMul, Int.reduceLT, Int.reduceLE, Int.reduceEq, Int.reduceNeg, Int.reduceToNat, reduceIte, reduceCtorEq, Int.reduceBEq, Int.reduceBNe, hb14, hb16, hb18, hb21]
            intro b23 hb23
            simp only [push_cast, Nat.reduceAdd, Nat.reduceSub, Nat.reduceMul, Nat.reduceLT, Nat.reduceLeDiff, Nat.reduceEqDiff, Nat.reduceMod, Nat.reduceDiv, Int.reduceAdd, Int.reduceSub, Int.reduceMul, Int.reduceLT, Int.reduceLE, Int.reduceEq, Int.reduceNeg, Int.reduceToNat, reduceIte, reduceCtorEq, Int.reduceBEq, Int.reduceBNe, hb14, hb16, hb18, hb21, hb23]
            refine useL [_, _, _, _, _, _] (jback_R (m := (B.marks.length : Nat)) (hjD.ext hg6.ext) H.rd) (JeR.rd _) hg6.marks ⟨hb23.2.2.2.2.2.2.2.2.2.2, hL6⟩ fun w M7 hg7 hL7 hq7 => ?_
            rw [H.y] at hq7
            obtain ⟨w1, rfl, hjY⟩ := hq7
            obtain ⟨p7, q7, p7', q7', p7'', q7'', rfl⟩ := hjY.e3
            simp only [push_cast, Nat.reduceAdd, Nat.reduceSub, Nat.reduceMul, Nat.reduceLT, Nat.reduceLeDiff, Nat.reduceEqDiff, Nat.reduceMod, Nat.reduceDiv, Int.reduceAdd, Int.reduceSub, Int.reduceMul, Int.reduceLT, Int.reduceLE, Int.reduceEq, Int.reduceNeg, Int.reduceToNat, reduceIte, reduceCtorEq, Int.reduceBEq, Int.reduceBNe, hb14, hb16, hb18, hb21, hb23]
            intro b25 hb25
            refine regO gV4_ok ?_
            simp only [push_cast, Nat.reduceAdd, Nat.reduceSub, Nat.reduceMul, Nat.reduceLT, Nat.reduceLeDiff, Nat.reduceEqDiff, Nat.reduceMod, Nat.reduceDiv, Int.reduceAdd, Int.reduceSub, Int.reduceMul, Int.reduceLT, Int.reduceLE, Int.reduceEq, Int.reduceNeg, Int.reduceToNat, reduceIte, reduceCtorEq, Int.reduceBEq, Int.reduceBNe, hb14, hb16, hb18, hb21, hb23, hb25]
            have hA7 := hjA.ext (hg3.trans (hg4.trans (hg5.trans (hg6.trans hg7)))).ext
            have hX7 := hjX.ext hg7.ext
            have hB7 := hjB.ext (hg4.trans (hg5.trans (hg6.trans hg7))).ext
            refine useP [_, _, _, _, _, _, _] (v := .bool true) (fun MB hr2 he2 => sameT H.ra (JoR.rd _ _ _ _ he2.symm hX7) (JoR.rd _ _ _ _ he2.symm hA7) hr2.marks) ⟨hb25.2.2.2.2.2.2.2.2.2.2.2.2, hL7⟩ ?_
            simp only [push_cast, Nat.reduceAdd, Nat.reduceSub, Nat.reduceMul, Nat.reduceLT, Nat.reduceLeDiff, Nat.reduceEqDiff, Nat.reduceMod, Nat.reduceDiv, Int.reduceAdd, Int.reduceSub, Int.reduceMul, Int.reduceLT, Int.reduceLE, Int.reduceEq, Int.reduceNeg, Int.reduceToNat, reduceIte, reduceCtorEq, Int.reduceBEq, Int.reduceBNe, hb14, hb16, hb18, hb21, hb23, hb25]
            refine useP [_, _, _, _, _, _, _] (v := .bool true) (fun MB hr2 he2 => sameT H.rb (JoR.rd _ _ _ _ he2.symm hjY) (JoR.rd _ _ _ _ he2.symm hB7) hr2.marks) ⟨hb25.2.2.2.2.2.2.2.2.2.2.2.2, hL7⟩ ?_
            simp only [push_cast, Nat.reduceAdd, Nat.reduceSub, Nat.reduceMul, Nat.reduceLT, Nat.reduceLeDiff, Nat.reduceEqDiff, Nat.reduceMod, Nat.reduceDiv, Int.reduceAdd, Int.reduceSub, Int.reduceMul, Int.reduceLT, Int.reduceLE, Int.reduceEq, Int.reduceNeg, Int.reduceToNat, reduceIte, reduceCtorEq, Int.reduceBEq, Int.reduceBNe, hb14, hb16, hb18, hb21, hb23, hb25]
end Go.Proofs.YtkhpncfgimlleaaGreat
