/- Texts of this claim, merged by program: Vv. -/
import Derived.Test.YtkhpncfgimlleaaGreatZnAw
set_option linter.unusedSimpArgs false
set_option linter.unusedVariables false
namespace Go.Ev
theorem badN_all : badN.cells.all oneC = true := rfl
theorem bad5_all : bad5.cells.all oneC = true := rfl
theorem findE_ex : ∀ {M : Hp} {e : Ent}, e ∈ M → ∃ e', findE M e.blk = some e'
  | x :: r, e, h => by
    rw [findE]
    by_cases hb : e.blk = x.blk
    · rw [if_pos hb]; exact ⟨_, rfl⟩
    · rw [if_neg hb]
      rcases List.mem_cons.1 h with rfl | h
      · exact absurd rfl hb
      · exact findE_ex h
theorem perm_z (A B C R R' : Hp) (h : R' = R) : ((A ++ (B ++ C)) ++ R).Perm (C ++ (R' ++ (A ++ B))) := by
  subst h
  rw [← List.append_assoc A B C, List.append_assoc]
  exact (List.perm_append_comm_assoc (A ++ B) C R').trans (List.Perm.append_left C List.perm_append_comm)
theorem WpV.toRo {P : Program} {r : Option Nat} {n : Nat} {c : Code} {K : Exit → Tm → Hp → Prop} {T : Tm} {b e s cap : Nat} {xs : List Value} {H : Hp} (h : WpV P r n c K T (⟨b, 0, .ro, xs⟩ :: H)) : WpV P r n c K T (⟨b, 0, .vec e s cap, xs⟩ :: H) := by
  intro w0 mu a w hr ht hs hd
  have hh := hs.ents _ (List.mem_cons_self ..)
  have hlt := Ent.lt hh
  unfold Ent.holds at hh
  dsimp only at hh
  obtain ⟨-, cs, hcs, -, -, hpre⟩ := hh
  refine h w0 mu a w hr ht ⟨hs.os, hs.tape, hs.output, hs.size, hs.old, fun x hx => ?_, fun x hx hw => ?_, ?_⟩ (by rw [hd]; simp [defersOf, marksOf])
  · rcases List.mem_cons.1 hx with rfl | hx
    · unfold Ent.holds
      refine ⟨hlt, fun k v hk => ?_⟩
      simp only [World.cell?, hcs]
      simpa using hpre k v hk
    · exact hs.ents x (List.mem_cons_of_mem _ hx)
  · rcases List.mem_cons.1 hx with rfl | hx
    · exact hw.elim
    · exact hs.own x (List.mem_cons_of_mem _ hx) hw
  · obtain ⟨p1, p2⟩ := List.pairwise_cons.1 hs.apart
    exact List.pairwise_cons.2 ⟨fun x hx _ => p1 x hx (.inl trivial), p2⟩
theorem WpV.rowL {P : Program} {r : Option Nat} {n : Nat} {c : Code} {K : Exit → Tm → Hp → Prop} {T : Tm} {e : Nat} {L : List Ch} {v : Value} {N M1 : Hp} (B : Hp) (ho : OutG e 31 (L.flatMap Ch.cells) L.length v N) (hf : freshN N M1)
    (h : ∀ Nl Mq, RowL e L v Nl Mq → (∀ b x, findE M1 b = some x → findE Mq b = some x) → marksOf Mq = marksOf M1 → (∀ b, fresh b (N ++ M1) → fresh b Mq) → WpV P r n c K T (Nl ++ (B ++ Mq))) : WpV P r n c K T (B ++ (N ++ M1)) := by
  rcases ho with ⟨h0, -, rfl, rfl⟩ | ⟨b, cp, rfl, hc, -, rfl⟩
  · exact h [] M1 (.inl ⟨List.length_eq_zero_iff.1 h0, rfl, rfl⟩) (fun _ _ h => h) rfl (fun _ h => h)
  · refine WpV.perm (H' := ⟨b, 0, .vec e 31 cp, L.flatMap Ch.cells⟩ :: (B ++ M1)) (List.perm_append_comm_assoc B [_] M1) (by simp [marks_append, marksOf]) ?_
    by_cases hlt : L.length < cp
    · exact fullV fun ys hys => h [_] M1 (.inr (.inl ⟨b, cp, ys, rfl, hlt, hys, rfl⟩)) (fun _ _ h => h) rfl (fun _ h => (fresh_app_iff.1 h).2)
    · obtain rfl : cp = L.length := by omega
      refine WpV.toRo ?_
      refine WpV.perm (H' := B ++ (⟨b, 0, .ro, L.flatMap Ch.cells⟩ :: M1)) (List.perm_append_comm_assoc [_] B M1) (by simp [marks_append, marksOf]) ?_
      exact h [] _ (.inr (.inr ⟨b, rfl, rfl, by simp [findE]⟩)) (fun c x hx => find_behind (L := [⟨b, 0, .ro, L.flatMap Ch.cells⟩]) ⟨hf.1, trivial⟩ _ _ hx) (by simp [marksOf]) (fun c hc => hc)
end Go.Ev
namespace Go.Proofs.YtkhpncfgimlleaaGreat
open Go Go.Ev Go.Proofs
set_option maxRecDepth 100000
set_option maxHeartbeats 4000000
def plNone : Plans := fun i => if i = 8 then [] else if i = 9 then [] else if i = 10 then [] else if i = 11 then [(0, 9)] else if i = 12 then [] else if i = 13 then [(0, 9)] else Tryz.pl6 i
attribute [push_cast] plNone
attribute [-push_cast] slAddr evAppend_nil evAppend_some
theorem journalNone_ok {M : Hp} {s : List R4} {l : List R5} {cs : List R4} {a : Int} {v u w : Value} (hm : marksOf M = []) (hv : LiR R4.cells 4 M s v) (hu : LiR R5.cells 5 M l u) (hw : LiR R4.cells 4 M cs w) (ha : i64In a) (is : ∀ r ∈ s, r.In) (il : ∀ r ∈ l, r.In) (ic : ∀ r ∈ cs, r.In) : CallsV Tryz.prog 6 [v, u, w, .int .i64 a] M (Ret0 (.bool true)) := by
  have hrj := journalR_ri s l
  have hsh := journalR_sh s l
  have hfw := journalR_few s l
  obtain ⟨j, hj⟩ : ∃ j, j = journalR s l := ⟨_, rfl⟩
  have hc := jour_ok hv hu is il
  rw [← hj] at hrj hsh hc hfw
  obtain ⟨hml, hul⟩ := hsh
  have j9 : i64In 9 := by decide
  obtain ⟨ps, ks, rfl⟩ := hv.slice
  obtain ⟨pu, ku, rfl⟩ := hu.slice
  obtain ⟨p, k, rfl, hla⟩ := hw.openC R4.len (by decide)
  refine callsO gV4_ok Tryz.mix plNone Tryz.func6 rfl Tryz.ntmps6 Tryz.results6 rfl (by first | rfl | assumption) (Nat.le_of_ble_eq_true rfl) (by kernel_rfl) ?_
  simp only [push_cast, Nat.reduceAdd, Nat.reduceSub, Nat.reduceMul, Nat.reduceLT, Nat.reduceLeDiff, Nat.reduceEqDiff, Nat.reduceMod, Nat.reduceDiv, Int.reduceAdd, Int.reduceSub, Int.reduceMul, Int.reduceLT, Int.reduceLE, Int.reduceEq, Int.reduceNeg, Int.reduceToNat, reduceIte, reduceCtorEq, Int.reduceBEq, Int.reduceBNe]
  refine useL [] hc (JoR.rd _) hm trivial fun w M1 hg1 hL1 hj1 => ?_
  obtain ⟨p1, q1, p1', q1', p1'', q1'', rfl⟩ := hj1.e3
  simp only [push_cast, Nat.reduceAdd, Nat.reduceSub, Nat.reduceMul, Nat.reduceLT, Nat.reduceLeDiff, Nat.reduceEqDiff, Nat.reduceMod, Nat.reduceDiv, Int.reduceAdd, Int.reduceSub, Int.reduceMul, Int.reduceLT, Int.reduceLE, Int.reduceEq, Int.reduceNeg, Int.reduceToNat, reduceIte, reduceCtorEq, Int.reduceBEq, Int.reduceBNe]
  intro b10 hb10
  have f10 : fresh b10 M1 := hb10
  have hm1 := hg1.marks
  refine loopO gV4_ok (pl := plNone) Tryz.mix (X := {x : (Nat × Value) × Hp // freshN x.2 M1 ∧ fresh b10 (x.2 ++ M1)})
    (fun x => ([(2, .slice p cs.length k), (3, .int .i64 a), (9, .bool true), (10, .pointer (some ⟨b10, 0, none⟩)), (11, x.1.1.2), (12, .int .i64 x.1.1.1)], ⟨b10, 0, .cel 37, [.slice p1 j.state.length q1, .slice p1' j.undo.length q1', .slice p1'' j.marks.length q1'']⟩ :: (x.1.2 ++ M1)))
    (fun x => x.1.1.1 ≤ cs.length ∧ x.1.1.1 ≤ 6 ∧ OutG 31 31 (((cs.take x.1.1.1).map chR).flatMap Ch.cells) x.1.1.1 x.1.1.2 x.1.2) (fun x => cs.length - x.1.1.1) ⟨((0, .slice none 0 0), []), trivial, f10⟩ ?_ ?_ (by kernel_rfl) ?_
  · exact ⟨Nat.zero_le _, Nat.zero_le _, .inl ⟨rfl, rfl, rfl, rfl⟩⟩
  · simp only [push_cast, Nat.reduceAdd, Nat.reduceSub, Nat.reduceMul, Nat.reduceLT, Nat.reduceLeDiff, Nat.reduceEqDiff, Nat.reduceMod, Nat.reduceDiv, Int.reduceAdd, Int.reduceSub, Int.reduceMul, Int.reduceLT, Int.reduceLE, Int.reduceEq, Int.reduceNeg, Int.reduceToNat, reduceIte, reduceCtorEq, Int.reduceBEq, Int.reduceBNe]
  · rintro ⟨⟨⟨ix, vl⟩, N⟩, hfN, q10⟩ ⟨hi, hlim, ho⟩
    dsimp only at hi hlim ho hfN q10 ⊢
    obtain ⟨pl, cl, rfl⟩ := ho.slice
    have hlen : ((cs.take ix).map chR).length = ix := by rw [List.length_map, List.length_take]; omega
    by_cases hc : ix < cs.length ∧ ix < 6
    · obtain ⟨hlt, hl8⟩ := hc
      obtain ⟨r, hr'⟩ : ∃ r, cs[ix]? = some r := ⟨cs[ix], List.getElem?_eq_getElem hlt⟩
      obtain ⟨ia, ib, ic', id⟩ := ic r (List.mem_of_getElem? hr')
      rcases hla with rfl | ⟨b, f, d, kd, cc, rfl, hfe, hat⟩
      · simp at hlt
      obtain ⟨a1, a2⟩ := hat ix r hr'
      rw [show r.cells = [.int .i64 r.a, .int .i64 r.b, .int .i64 r.c, .int .i64 r.d] from rfl] at a2
      have hee : findE (N ++ M1) b = some ⟨b, f, kd, cc⟩ := find_behind hfN _ _ (hg1.find hfe)
      have m10 := (fresh_findS q10 hee).2
      have i1 : (ix : Int) < (cs.length : Int) := by omega
      have i2 : (ix : Int) < 6 := by omega
      have e3 : -9223372036854775808 ≤ (ix : Int) + 1 ∧ (ix : Int) + 1 ≤ 9223372036854775807 := by omega
      have hs1 : (cs.take (ix + 1)).map chR = (cs.take ix).map chR ++ [chR r] := by
        rw [List.take_add_one, hr', List.map_append]; rfl
      simp only [push_cast, Nat.reduceAdd, Nat.reduceSub, Nat.reduceMul, Nat.reduceLT, Nat.reduceLeDiff, Nat.reduceEqDiff, Nat.reduceMod, Nat.reduceDiv, Int.reduceAdd, Int.reduceSub, Int.reduceMul, Int.reduceLT, Int.reduceLE, Int.reduceEq, Int.reduceNeg, Int.reduceToNat, reduceIte, reduceCtorEq, Int.reduceBEq, Int.reduceBNe, i1, i2, hlt, hl8, hee, a1, a2, ia, ib, ic', id, m10]
      intro bs hbs
      have ho' : OutG 31 31 (((cs.take ix).map chR).flatMap Ch.cells) ((cs.take ix).map chR).length (.slice pl ix cl) N := by rw [hlen]; exact ho
      have zs : fresh bs N := (fresh_app_iff.1 hbs.2.2).1
      have z10 : fresh b10 N := (fresh_app_iff.1 q10).1
      refine push_gA (P := Tryz.prog) [_] (by_ := 120) (q := 31) (ag := true) ho' ⟨zs, z10, trivial⟩ (by simp only [push_cast, Nat.reduceAdd, Nat.reduceSub, Nat.reduceMul, Nat.reduceLT, Nat.reduceLeDiff, Nat.reduceEqDiff, Nat.reduceMod, Nat.reduceDiv, Int.reduceAdd, Int.reduceSub, Int.reduceMul, Int.reduceLT, Int.reduceLE, Int.reduceEq, Int.reduceNeg, Int.reduceToNat, reduceIte, reduceCtorEq, Int.reduceBEq, Int.reduceBNe]) (by simp only [push_cast, Nat.reduceAdd, Nat.reduceSub, Nat.reduceMul, Nat.reduceLT, Nat.reduceLeDiff, Nat.reduceEqDiff, Nat.reduceMod, Nat.reduceDiv, Int.reduceAdd, Int.reduceSub, Int.reduceMul, Int.reduceLT, Int.reduceLE, Int.reduceEq, Int.reduceNeg, Int.reduceToNat, reduceIte, reduceCtorEq, Int.reduceBEq, Int.reduceBNe]) (chR r).len (by have := chAll [chR r]; simpa using this) (by unfold two47; omega) fun v3 N3 ho4 hf4 => ?_
      obtain ⟨p3, k3, hv3⟩ := ho4.slice
      subst hv3
      rcases ho4 with ⟨r1, -⟩ | ⟨bu, cu, r3, r4, r5, hN3⟩
      · rw [List.length_append] at r1; simp at r1
      have hl2 : ((cs.take ix).map chR ++ [chR r]).length = ix + 1 := by rw [List.length_append, hlen]; rfl
      rw [hl2] at r3 r4 r5
      obtain ⟨hq3, -⟩ := (show freshN [⟨bu, 0, .vec 31 31 cu, ((cs.take ix).map chR ++ [chR r]).flatMap Ch.cells⟩] _ from hN3 ▸ hf4)
      rw [hN3]
      have hbu := hq3
      simp only [push_cast, Nat.reduceAdd, Nat.reduceSub, Nat.reduceMul, Nat.reduceLT, Nat.reduceLeDiff, Nat.reduceEqDiff, Nat.reduceMod, Nat.reduceDiv, Int.reduceAdd, Int.reduceSub, Int.reduceMul, Int.reduceLT, Int.reduceLE, Int.reduceEq, Int.reduceNeg, Int.reduceToNat, reduceIte, reduceCtorEq, Int.reduceBEq, Int.reduceBNe] at hbu
      simp only [push_cast, Nat.reduceAdd, Nat.reduceSub, Nat.reduceMul, Nat.reduceLT, Nat.reduceLeDiff, Nat.reduceEqDiff, Nat.reduceMod, Nat.reduceDiv, Int.reduceAdd, Int.reduceSub, Int.reduceMul, Int.reduceLT, Int.reduceLE, Int.reduceEq, Int.reduceNeg, Int.reduceToNat, reduceIte, reduceCtorEq, Int.reduceBEq, Int.reduceBNe, hbs, hbu, hl2, wrap_i64' e3]
      obtain ⟨-, -, u10, u10', uM⟩ := hbu
      refine ⟨⟨((ix + 1, .slice p3 (ix + 1) k3), [⟨bu, 0, .vec 31 31 cu, ((cs.take ix).map chR ++ [chR r]).flatMap Ch.cells⟩]), ⟨uM, trivial⟩, ⟨u10', u10, f10⟩⟩, ⟨hlt, by dsimp only; omega, ?_⟩, by dsimp only; omega, ⟨rfl, rfl⟩, ⟨by simp [findE], ?_⟩, by simp [marksOf]⟩
      · dsimp only
        rw [hs1]
        exact .inr ⟨bu, cu, r3, r4, r5, rfl⟩
      · simp only [remE, if_true]
        exact subH_cons (fresh_app_iff.1 hbs.2.2).2
    · obtain ⟨r4, hr4⟩ : ∃ r4, r4 = cs.take ix := ⟨_, rfl⟩
      rw [← hr4] at ho hlen
      have hl4 : r4.length = ix := by rw [← hlen, List.length_map]
      have ho' : OutG 31 31 ((r4.map chR).flatMap Ch.cells) (r4.map chR).length (.slice pl ix cl) N := by rw [hlen]; exact ho
      obtain ⟨L8, hL8⟩ : ∃ L8, L8 = r4.map chR ++ [badN] := ⟨_, rfl⟩
      obtain ⟨L9, hL9⟩ : ∃ L9, L9 = r4.map chR ++ [bad5] := ⟨_, rfl⟩
      have hd8 : doJ j L8 = (j, 1) := hL8 ▸ none_plain hrj hfw ⟨hml, hul⟩ (by omega) (.inl rfl)
      have hd9 : doJ j L9 = (j, 1) := hL9 ▸ none_plain hrj hfw ⟨hml, hul⟩ (by omega) (.inr rfl)
      have hl8 : L8.length = ix + 1 := by rw [hL8, List.length_append, hlen]; rfl
      have hl9 : L9.length = ix + 1 := by rw [hL9, List.length_append, hlen]; rfl
      by_cases hlt : ix < cs.length
      have i1 : (ix : Int) < (cs.length : Int) := by omega
      have i2 : ¬ (ix : Int) < 6 := by omega
      have i3 : ¬ ix < 6 := by omega
      simp only [push_cast, Nat.reduceAdd, Nat.reduceSub, Nat.reduceMul, Nat.reduceLT, Nat.reduceLeDiff, Nat.reduceEqDiff, Nat.reduceMod, Nat.reduceDiv, Int.reduceAdd, Int.reduceSub, Int.reduceMul, Int.reduceLT, Int.reduceLE, Int.reduceEq, Int.reduceNeg, Int.reduceToNat, reduceIte, reduceCtorEq, Int.reduceBEq, Int.reduceBNe, i1, i2, hlt, i3]
      rotate_left
      have i1 : ¬ (ix : Int) < (cs.length : Int) := by omega
      simp only [push_cast, Nat.reduceAdd, Nat.reduceSub, Nat.reduceMul, Nat.reduceLT, Nat.reduceLeDiff, Nat.reduceEqDiff, Nat.reduceMod, Nat.reduceDiv, Int.reduceAdd, Int.reduceSub, Int.reduceMul, Int.reduceLT, Int.reduceLE, Int.reduceEq, Int.reduceNeg, Int.reduceToNat, reduceIte, reduceCtorEq, Int.reduceBEq, Int.reduceBNe, i1, hlt]
      all_goals
        refine WpV.slots [(3, .int .i64 a), (9, .bool true), (10, .pointer (some ⟨b10, 0, none⟩)), (11, .slice pl ix cl)] (by simp only [push_cast, Nat.reduceAdd, Nat.reduceSub, Nat.reduceMul, Nat.reduceLT, Nat.reduceLeDiff, Nat.reduceEqDiff, Nat.reduceMod, Nat.reduceDiv, Int.reduceAdd, Int.reduceSub, Int.reduceMul, Int.reduceLT, Int.reduceLE, Int.reduceEq, Int.reduceNeg, Int.reduceToNat, reduceIte, reduceCtorEq, Int.reduceBEq, Int.reduceBNe]) ?_
        refine WpV.rowL [⟨b10, 0, .cel 37, [.slice p1 j.state.length q1, .slice p1' j.undo.length q1', .slice p1'' j.marks.length q1'']⟩] ho' hfN fun N8 Mq hR8 hfq hmq hfr => ?_
        rw [show [⟨b10, 0, .cel 37, [.slice p1 j.state.length q1, .slice p1' j.undo.length q1', .slice p1'' j.marks.length q1'']⟩] ++ Mq = ⟨b10, 0, .cel 37, [.slice p1 j.state.length q1, .slice p1' j.undo.length q1', .slice p1'' j.marks.length q1'']⟩ :: Mq from rfl]
        replace hmq := hmq.trans hm1
        have hjq := hj1.find hfq
        have hL10 : freshN [⟨b10, 0, .cel 37, [.slice p1 j.state.length q1, .slice p1' j.undo.length q1', .slice p1'' j.marks.length q1'']⟩] Mq := ⟨hfr _ q10, trivial⟩
        have fE8 : findE (⟨b10, 0, .cel 37, [.slice p1 j.state.length q1, .slice p1' j.undo.length q1', .slice p1'' j.marks.length q1'']⟩ :: Mq) b10 = some ⟨b10, 0, .cel 37, [.slice p1 j.state.length q1, .slice p1' j.undo.length q1', .slice p1'' j.marks.length q1'']⟩ := by
          simp only [push_cast, Nat.reduceAdd, Nat.reduceSub, Nat.reduceMul, Nat.reduceLT, Nat.reduceLeDiff, Nat.reduceEqDiff, Nat.reduceMod, Nat.reduceDiv, Int.reduceAdd, Int.reduceSub, Int.reduceMul, Int.reduceLT, Int.reduceLE, Int.reduceEq, Int.reduceNeg, Int.reduceToNat, reduceIte, reduceCtorEq, Int.reduceBEq, Int.reduceBNe]
        refine drawZ gV4_ok Tryz.mix [(3, .int .i64 a), (9, .bool true), (10, .pointer (some ⟨b10, 0, none⟩)), (11, .slice pl ix cl)]
            (fun i val => match i with
              | 0 => val 0 = .agg #[.slice p1 j.state.length q1, .slice p1' j.undo.length q1', .slice p1'' j.marks.length q1'']
              | 1 => val 1 = .slice pl ix cl
              | 2 => val 2 = badN.v
              | 3 => ∃ b, val 3 = .slice (some ⟨b, 0, none⟩) 1 1
              | 4 => ∃ bE cE, val 4 = .slice (some ⟨bE, 0, none⟩) L8.length cE
              | 5 => ∃ p k p' k' p'' k'', val 5 = .tuple #[.agg #[.slice p j.state.length k, .slice p' j.undo.length k', .slice p'' j.marks.length k''], .int .i64 1]
              | 6 => val 6 = val 5 ∧ ∃ p k p' k' p'' k'', val 5 = .tuple #[.agg #[.slice p j.state.length k, .slice p' j.undo.length k', .slice p'' j.marks.length k''], .int .i64 1]
              | 7 => val 6 = .tuple #[val 7, .int .i64 1] ∧ ∃ p k p' k' p'' k'', val 7 = .agg #[.slice p j.state.length k, .slice p' j.undo.length k', .slice p'' j.marks.length k'']
              | 8 => val 8 = .int .i64 1
              | 9 => ∃ b, val 9 = .pointer (some ⟨b, 0, none⟩)
              | 11 => val 11 = .int .i64 1
              | _ => True)
            (fun i val N => match i with
              | 3 => ∃ b, val 3 = .slice (some ⟨b, 0, none⟩) 1 1 ∧ N = [⟨b, 0, .vec 31 31 1, badN.cells⟩]
              | 4 => ∃ Na Nl, N = Na ++ Nl ∧ allWr Na ∧ marksOf Na = [] ∧ RowL 31 (r4.map chR) (.slice pl ix cl) Nl Mq ∧ (∃ bE cE zs, val 4 = .slice (some ⟨bE, 0, none⟩) L8.length cE ∧ findE N bE = some ⟨bE, 0, .vec 31 31 cE, L8.flatMap Ch.cells ++ zs⟩)
              | 5 => ∃ Nn Na Nl, N = Nn ++ (Na ++ Nl) ∧ allWr Nn ∧ marksOf Nn = [] ∧ allWr Na ∧ marksOf Na = [] ∧ RowL 31 (r4.map chR) (.slice pl ix cl) Nl Mq ∧ JeR (j, 1) (val 5) (Nn ++ Mq)
              | 6 => N = []
              | 7 => N = []
              | 9 => ∃ b, val 9 = .pointer (some ⟨b, 0, none⟩) ∧ N = [⟨b, 0, .cel 37, [.slice none 0 0, .slice none 0 0, .slice none 0 0]⟩]
              | 10 => ∃ b p k p' k' p'' k'', val 9 = .pointer (some ⟨b, 0, none⟩) ∧ val 7 = .agg #[.slice p j.state.length k, .slice p' j.undo.length k', .slice p'' j.marks.length k''] ∧ N = [⟨b, 0, .cel 37, [.slice p j.state.length k, .slice p' j.undo.length k', .slice p'' j.marks.length k'']⟩]
              | _ => N = []) (fun i => if i = 4 then [3] else if i = 5 then [4] else if i = 10 then [9] else []) [5, 10] N8 4 hR8.wr.1 hR8.wr.2 (by decide) (by kernel_rfl) (by kernel_rfl) (by kernel_rfl) ?_ (by rfl) (by decide) (by kernel_rfl) ?_ ?_ ?_ ?_ ?_
        · simp only [push_cast, Nat.reduceAdd, Nat.reduceSub, Nat.reduceMul, Nat.reduceLT, Nat.reduceLeDiff, Nat.reduceEqDiff, Nat.reduceMod, Nat.reduceDiv, Int.reduceAdd, Int.reduceSub, Int.reduceMul, Int.reduceLT, Int.reduceLE, Int.reduceEq, Int.reduceNeg, Int.reduceToNat, reduceIte, reduceCtorEq, Int.reduceBEq, Int.reduceBNe, subT]
        · intro i hi hiF
          replace hi : i < 12 := hi
          obtain rfl | rfl | rfl | rfl | rfl | rfl | rfl | rfl | rfl | rfl | rfl | rfl : i = 0 ∨ i = 1 ∨ i = 2 ∨ i = 3 ∨ i = 4 ∨ i = 5 ∨ i = 6 ∨ i = 7 ∨ i = 8 ∨ i = 9 ∨ i = 10 ∨ i = 11 := by omega
          all_goals first
            | exact .inl fun _ _ h => h
            | exact absurd (by decide) hiF
            | exact .inr (by kernel_rfl)
        · intro i o ho val val' h1 h2 hV
          have hi := (Array.getElem?_eq_some_iff.1 ho).1
          replace hi : i < 12 := hi
          obtain rfl | rfl | rfl | rfl | rfl | rfl | rfl | rfl | rfl | rfl | rfl | rfl : i = 0 ∨ i = 1 ∨ i = 2 ∨ i = 3 ∨ i = 4 ∨ i = 5 ∨ i = 6 ∨ i = 7 ∨ i = 8 ∨ i = 9 ∨ i = 10 ∨ i = 11 := by omega
          · first
              | exact trivial
              | exact hV
              | exact h1.trans hV
              | (rw [h1]; exact hV)
          · first
              | exact trivial
              | exact hV
              | exact h1.trans hV
              | (rw [h1]; exact hV)
          · first
              | exact trivial
              | exact hV
              | exact h1.trans hV
              | (rw [h1]; exact hV)
          · first
              | exact trivial
              | exact hV
              | exact h1.trans hV
              | (rw [h1]; exact hV)
          · first
              | exact trivial
              | exact hV
              | exact h1.trans hV
              | (rw [h1]; exact hV)
          · first
              | exact trivial
              | exact hV
              | exact h1.trans hV
              | (rw [h1]; exact hV)
          · simp only [List.getElem?_toArray, List.getElem?_cons_zero, List.getElem?_cons_succ, Option.some.injEq] at ho; subst ho
            have e4 := h2 5 (by kernel_rfl)
            rw [h1, e4]
            exact hV
          · simp only [List.getElem?_toArray, List.getElem?_cons_zero, List.getElem?_cons_succ, Option.some.injEq] at ho; subst ho
            have e5 := h2 6 (by kernel_rfl)
            rw [h1, e5]
            exact hV
          · first
              | exact trivial
              | exact hV
              | exact h1.trans hV
              | (rw [h1]; exact hV)
          · first
              | exact trivial
              | exact hV
              | exact h1.trans hV
              | (rw [h1]; exact hV)
          · first
              | exact trivial
              | exact hV
              | exact h1.trans hV
              | (rw [h1]; exact hV)
          · first
              | exact trivial
              | exact hV
              | exact h1.trans hV
              | (rw [h1]; exact hV)
        · intro i o ho val val' N h1 h2 hQ
          have hi := (Array.getElem?_eq_some_iff.1 ho).1
          replace hi : i < 12 := hi
          obtain rfl | rfl | rfl | rfl | rfl | rfl | rfl | rfl | rfl | rfl | rfl | rfl : i = 0 ∨ i = 1 ∨ i = 2 ∨ i = 3 ∨ i = 4 ∨ i = 5 ∨ i = 6 ∨ i = 7 ∨ i = 8 ∨ i = 9 ∨ i = 10 ∨ i = 11 := by omega
          · first
              | exact trivial
              | exact hQ
              | exact h1.trans hQ
              | (rw [h1]; exact hQ)
          · first
              | exact trivial
              | exact hQ
              | exact h1.trans hQ
              | (rw [h1]; exact hQ)
          · first
              | exact trivial
              | exact hQ
              | exact h1.trans hQ
              | (rw [h1]; exact hQ)
          · first
              | exact trivial
              | exact hQ
              | exact h1.trans hQ
              | (rw [h1]; exact hQ)
          · first
              | exact trivial
              | exact hQ
              | exact h1.trans hQ
              | (rw [h1]; exact hQ)
          · first
              | exact trivial
              | exact hQ
              | exact h1.trans hQ
              | (rw [h1]; exact hQ)
          · first
              | exact trivial
              | exact hQ
              | exact h1.trans hQ
              | (rw [h1]; exact hQ)
          · first
              | exact trivial
              | exact hQ
              | exact h1.trans hQ
              | (rw [h1]; exact hQ)
          · first
              | exact trivial
              | exact hQ
              | exact h1.trans hQ
              | (rw [h1]; exact hQ)
          · first
              | exact trivial
              | exact hQ
              | exact h1.trans hQ
              | (rw [h1]; exact hQ)
          · simp only [List.getElem?_toArray, List.getElem?_cons_zero, List.getElem?_cons_succ, Option.some.injEq] at ho; subst ho
            have e6 := h2 7 (by kernel_rfl)
            have e8 := h2 9 (by kernel_rfl)
            rw [e6, e8]
            exact hQ
          · first
              | exact trivial
              | exact hQ
              | exact h1.trans hQ
              | (rw [h1]; exact hQ)
        · intro i o ho T' Y val mem hT hdep hus hfr hY hmY hapY
          have hi := (Array.getElem?_eq_some_iff.1 ho).1
          replace hi : i < 12 := hi
          have yj := hY _ _ fE8
          have tj : getT T' 10 = some (.pointer (some ⟨b10, 0, none⟩)) := hT.2.2.1
          have t11 : getT T' 11 = some (.slice pl ix cl) := hT.2.2.2.1
          obtain rfl | rfl | rfl | rfl | rfl | rfl | rfl | rfl | rfl | rfl | rfl | rfl : i = 0 ∨ i = 1 ∨ i = 2 ∨ i = 3 ∨ i = 4 ∨ i = 5 ∨ i = 6 ∨ i = 7 ∨ i = 8 ∨ i = 9 ∨ i = 10 ∨ i = 11 := by omega
          · simp only [List.getElem?_toArray, List.getElem?_cons_zero, List.getElem?_cons_succ, Option.some.injEq] at ho; subst ho
            simp only [push_cast, Nat.reduceAdd, Nat.reduceSub, Nat.reduceMul, Nat.reduceLT, Nat.reduceLeDiff, Nat.reduceEqDiff, Nat.reduceMod, Nat.reduceDiv, Int.reduceAdd, Int.reduceSub, Int.reduceMul, Int.reduceLT, Int.reduceLE, Int.reduceEq, Int.reduceNeg, Int.reduceToNat, reduceIte, reduceCtorEq, Int.reduceBEq, Int.reduceBNe, List.flatMap_nil, List.flatMap_cons, List.append_nil, List.nil_append, tj, yj]
            exact ⟨[], rfl, trivial, rfl, upd_self _ _ _, rfl⟩
          · simp only [List.getElem?_toArray, List.getElem?_cons_zero, List.getElem?_cons_succ, Option.some.injEq] at ho; subst ho
            simp only [push_cast, Nat.reduceAdd, Nat.reduceSub, Nat.reduceMul, Nat.reduceLT, Nat.reduceLeDiff, Nat.reduceEqDiff, Nat.reduceMod, Nat.reduceDiv, Int.reduceAdd, Int.reduceSub, Int.reduceMul, Int.reduceLT, Int.reduceLE, Int.reduceEq, Int.reduceNeg, Int.reduceToNat, reduceIte, reduceCtorEq, Int.reduceBEq, Int.reduceBNe, List.flatMap_nil, List.flatMap_cons, List.append_nil, List.nil_append, t11]
            exact ⟨[], rfl, trivial, rfl, upd_self _ _ _, rfl⟩
          · simp only [List.getElem?_toArray, List.getElem?_cons_zero, List.getElem?_cons_succ, Option.some.injEq] at ho; subst ho
            simp only [push_cast, Nat.reduceAdd, Nat.reduceSub, Nat.reduceMul, Nat.reduceLT, Nat.reduceLeDiff, Nat.reduceEqDiff, Nat.reduceMod, Nat.reduceDiv, Int.reduceAdd, Int.reduceSub, Int.reduceMul, Int.reduceLT, Int.reduceLE, Int.reduceEq, Int.reduceNeg, Int.reduceToNat, reduceIte, reduceCtorEq, Int.reduceBEq, Int.reduceBNe, List.flatMap_nil, List.flatMap_cons, List.append_nil, List.nil_append]
            exact ⟨[], rfl, trivial, rfl, upd_self _ _ _, rfl⟩
          · simp only [List.getElem?_toArray, List.getElem?_cons_zero, List.getElem?_cons_succ, Option.some.injEq] at ho; subst ho
            obtain ⟨v2, g2⟩ := hdep 2 (by kernel_rfl)
            replace g2 := g2 47 rfl
            rw [show val 2 = _ from v2] at g2
            simp only [push_cast, Nat.reduceAdd, Nat.reduceSub, Nat.reduceMul, Nat.reduceLT, Nat.reduceLeDiff, Nat.reduceEqDiff, Nat.reduceMod, Nat.reduceDiv, Int.reduceAdd, Int.reduceSub, Int.reduceMul, Int.reduceLT, Int.reduceLE, Int.reduceEq, Int.reduceNeg, Int.reduceToNat, reduceIte, reduceCtorEq, Int.reduceBEq, Int.reduceBNe, List.flatMap_nil, List.flatMap_cons, List.append_nil, List.nil_append, g2]
            intro b hf
            exact ⟨[_], rfl, ⟨trivial, trivial⟩, rfl, ⟨b, upd_self _ _ _⟩, b, upd_self _ _ _, rfl⟩
          · simp only [List.getElem?_toArray, List.getElem?_cons_zero, List.getElem?_cons_succ, Option.some.injEq] at ho; subst ho
            obtain ⟨v1, g1⟩ := hdep 1 (by kernel_rfl)
            replace g1 := g1 46 rfl
            rw [show val 1 = _ from v1] at g1
            obtain ⟨v3, g3⟩ := hdep 3 (by kernel_rfl)
            replace g3 := g3 48 rfl
            obtain ⟨bs0, v3⟩ := v3
            obtain ⟨b3', v3', hN⟩ := hus 3 (List.mem_singleton.2 rfl)
            have v3' : val 3 = _ := v3'
            rw [v3'] at g3
            have fr3 : freshN (mem 3 ++ N8) Y := by simpa using hfr
            have ap3 : ApartE (mem 3 ++ (N8 ++ Y)) := by simpa using hapY
            rw [hN] at fr3 ap3
            have hM4 : ∀ b e, findE Mq b = some e → findE Y b = some e := fun b e h => hY b e (find_behind (L := [_]) hL10 b e h)
            have hbsN : fresh b3' N8 := (fresh_app_iff.1 (freshN_apart (A := [⟨b3', 0, .vec 31 31 1, badN.cells⟩]) ap3 ⟨trivial, trivial⟩).1).1
            simp only [push_cast, Nat.reduceAdd, Nat.reduceSub, Nat.reduceMul, Nat.reduceLT, Nat.reduceLeDiff, Nat.reduceEqDiff, Nat.reduceMod, Nat.reduceDiv, Int.reduceAdd, Int.reduceSub, Int.reduceMul, Int.reduceLT, Int.reduceLE, Int.reduceEq, Int.reduceNeg, Int.reduceToNat, reduceIte, reduceCtorEq, Int.reduceBEq, Int.reduceBNe, List.flatMap_nil, List.flatMap_cons, List.append_nil, List.nil_append, g1, g3, hN, List.cons_append]
            refine append_keep (q := 31) (ag := true) hR8 hM4 fr3 hbsN (by simp only [push_cast, Nat.reduceAdd, Nat.reduceSub, Nat.reduceMul, Nat.reduceLT, Nat.reduceLeDiff, Nat.reduceEqDiff, Nat.reduceMod, Nat.reduceDiv, Int.reduceAdd, Int.reduceSub, Int.reduceMul, Int.reduceLT, Int.reduceLE, Int.reduceEq, Int.reduceNeg, Int.reduceToNat, reduceIte, reduceCtorEq, Int.reduceBEq, Int.reduceBNe]) (by simp only [push_cast, Nat.reduceAdd, Nat.reduceSub, Nat.reduceMul, Nat.reduceLT, Nat.reduceLeDiff, Nat.reduceEqDiff, Nat.reduceMod, Nat.reduceDiv, Int.reduceAdd, Int.reduceSub, Int.reduceMul, Int.reduceLT, Int.reduceLE, Int.reduceEq, Int.reduceNeg, Int.reduceToNat, reduceIte, reduceCtorEq, Int.reduceBEq, Int.reduceBNe]) badN_all (by unfold two47; rw [hlen]; omega) fun v' Na Nl h1 h2 h3 h4 => ⟨Na ++ Nl, rfl, allWr_app h1 h3.wr.1, by rw [marks_append, h2, h3.wr.2]; rfl, ?_, ?_⟩
            · rw [← hL8] at h4
              obtain ⟨bE, cE, zs, rfl, -⟩ := h4
              exact ⟨bE, cE, upd_self _ _ _⟩
            · rw [← hL8] at h4
              rw [upd_self]
              exact ⟨Na, Nl, rfl, h1, h2, h3, h4⟩
          · simp only [List.getElem?_toArray, List.getElem?_cons_zero, List.getElem?_cons_succ, Option.some.injEq] at ho; subst ho
            obtain ⟨v0, g0⟩ := hdep 0 (by kernel_rfl)
            replace g0 := g0 45 rfl
            rw [show val 0 = _ from v0] at g0
            obtain ⟨v4, g4⟩ := hdep 4 (by kernel_rfl)
            replace g4 := g4 49 rfl
            obtain ⟨bE0, c0, v4⟩ := v4
            obtain ⟨Na, Nl, hN4, w4, m4, hR4, bE, cE, zE, v4', hfE⟩ := hus 4 (List.mem_singleton.2 rfl)
            have v4' : val 4 = _ := v4'
            rw [v4'] at g4
            have fr4 : freshN (mem 4) Y := by simpa using hfr
            have hM4 : ∀ b e, findE Mq b = some e → findE Y b = some e := fun b e h => hY b e (find_behind (L := [_]) hL10 b e h)
            have hbE : fresh bE Mq := fresh_of fun e he hb => by
              obtain ⟨e1, h1⟩ := findE_ex he
              have h2 := findE_mem (hM4 _ _ h1)
              have h3 := freshN_iff.1 fr4 _ (findE_mem hfE).1 _ h2.1
              exact h3 (by rw [h2.2, hb])
            simp only [push_cast, Nat.reduceAdd, Nat.reduceSub, Nat.reduceMul, Nat.reduceLT, Nat.reduceLeDiff, Nat.reduceEqDiff, Nat.reduceMod, Nat.reduceDiv, Int.reduceAdd, Int.reduceSub, Int.reduceMul, Int.reduceLT, Int.reduceLE, Int.reduceEq, Int.reduceNeg, Int.reduceToNat, reduceIte, reduceCtorEq, Int.reduceBEq, Int.reduceBNe, List.flatMap_nil, List.flatMap_cons, List.append_nil, List.nil_append, g0, g4]
            refine doE_use (M := Mq) hjq hbE hrj hd8 (by decide) (by rw [hl8]; omega) (by rw [findE_app, hfE]) (fun b e h => find_behind fr4 _ _ (hM4 b e h)) fun w N hw hm1 hf hq => ⟨N ++ mem 4, by rw [List.append_assoc], allWr_app hw (by rw [hN4]; exact allWr_app w4 hR4.wr.1), by rw [marks_append, hm1, hN4, marks_append, m4, hR4.wr.2]; rfl, ?_, ?_⟩
            · obtain ⟨w1, rfl, hj⟩ := hq
              obtain ⟨p, k, p', k', p'', k'', rfl⟩ := hj.e3
              exact ⟨p, k, p', k', p'', k'', by rw [upd_self]⟩
            · rw [upd_self]
              exact ⟨N, Na, Nl, by rw [hN4], hw, hm1, w4, m4, hR4, hq⟩
          · simp only [List.getElem?_toArray, List.getElem?_cons_zero, List.getElem?_cons_succ, Option.some.injEq] at ho; subst ho
            obtain ⟨v5, g5⟩ := hdep 5 (by kernel_rfl)
            replace g5 := g5 50 rfl
            obtain ⟨p, k, p', k', p'', k'', v5⟩ := v5
            have v5 : val 5 = _ := v5
            rw [v5] at g5
            simp only [push_cast, Nat.reduceAdd, Nat.reduceSub, Nat.reduceMul, Nat.reduceLT, Nat.reduceLeDiff, Nat.reduceEqDiff, Nat.reduceMod, Nat.reduceDiv, Int.reduceAdd, Int.reduceSub, Int.reduceMul, Int.reduceLT, Int.reduceLE, Int.reduceEq, Int.reduceNeg, Int.reduceToNat, reduceIte, reduceCtorEq, Int.reduceBEq, Int.reduceBNe, List.flatMap_nil, List.flatMap_cons, List.append_nil, List.nil_append, g5]
            exact ⟨[], rfl, trivial, rfl, ⟨by simp [upd, v5], p, k, p', k', p'', k'', by simp [upd, v5]⟩, rfl⟩
          · simp only [List.getElem?_toArray, List.getElem?_cons_zero, List.getElem?_cons_succ, Option.some.injEq] at ho; subst ho
            obtain ⟨v6, g6⟩ := hdep 6 (by kernel_rfl)
            replace g6 := g6 44 rfl
            obtain ⟨v5, p, k, p', k', p'', k'', v4⟩ := v6
            have v5 : val 6 = _ := v5
            rw [v5, v4] at g6
            simp only [push_cast, Nat.reduceAdd, Nat.reduceSub, Nat.reduceMul, Nat.reduceLT, Nat.reduceLeDiff, Nat.reduceEqDiff, Nat.reduceMod, Nat.reduceDiv, Int.reduceAdd, Int.reduceSub, Int.reduceMul, Int.reduceLT, Int.reduceLE, Int.reduceEq, Int.reduceNeg, Int.reduceToNat, reduceIte, reduceCtorEq, Int.reduceBEq, Int.reduceBNe, List.flatMap_nil, List.flatMap_cons, List.append_nil, List.nil_append, g6]
            exact ⟨[], rfl, trivial, rfl, ⟨by simp [upd, v5, v4], p, k, p', k', p'', k'', by simp [upd]⟩, rfl⟩
          · simp only [List.getElem?_toArray, List.getElem?_cons_zero, List.getElem?_cons_succ, Option.some.injEq] at ho; subst ho
            obtain ⟨v6, g6⟩ := hdep 6 (by kernel_rfl)
            replace g6 := g6 44 rfl
            obtain ⟨v5, p, k, p', k', p'', k'', v4⟩ := v6
            have v5 : val 6 = _ := v5
            rw [v5, v4] at g6
            simp only [push_cast, Nat.reduceAdd, Nat.reduceSub, Nat.reduceMul, Nat.reduceLT, Nat.reduceLeDiff, Nat.reduceEqDiff, Nat.reduceMod, Nat.reduceDiv, Int.reduceAdd, Int.reduceSub, Int.reduceMul, Int.reduceLT, Int.reduceLE, Int.reduceEq, Int.reduceNeg, Int.reduceToNat, reduceIte, reduceCtorEq, Int.reduceBEq, Int.reduceBNe, List.flatMap_nil, List.flatMap_cons, List.append_nil, List.nil_append, g6]
            exact ⟨[], rfl, trivial, rfl, upd_self _ _ _, rfl⟩
          · simp only [List.getElem?_toArray, List.getElem?_cons_zero, List.getElem?_cons_succ, Option.some.injEq] at ho; subst ho
            simp only [push_cast, Nat.reduceAdd, Nat.reduceSub, Nat.reduceMul, Nat.reduceLT, Nat.reduceLeDiff, Nat.reduceEqDiff, Nat.reduceMod, Nat.reduceDiv, Int.reduceAdd, Int.reduceSub, Int.reduceMul, Int.reduceLT, Int.reduceLE, Int.reduceEq, Int.reduceNeg, Int.reduceToNat, reduceIte, reduceCtorEq, Int.reduceBEq, Int.reduceBNe, List.flatMap_nil, List.flatMap_cons, List.append_nil, List.nil_append]
            intro b hf
            exact ⟨[_], rfl, ⟨trivial, trivial⟩, rfl, ⟨b, upd_self _ _ _⟩, b, upd_self _ _ _, rfl⟩
          · simp only [List.getElem?_toArray, List.getElem?_cons_zero, List.getElem?_cons_succ, Option.some.injEq] at ho; subst ho
            obtain ⟨v7, g7⟩ := hdep 7 (by kernel_rfl)
            replace g7 := g7 51 rfl
            obtain ⟨v9, g9⟩ := hdep 9 (by kernel_rfl)
            replace g9 := g9 13 rfl
            obtain ⟨-, p, k, p', k', p'', k'', v6⟩ := v7
            have v6 : val 7 = _ := v6
            rw [v6] at g7
            obtain ⟨b8, v8, hN⟩ := hus 9 (List.mem_singleton.2 rfl)
            have v8 : val 9 = _ := v8
            rw [v8] at g9
            simp only [push_cast, Nat.reduceAdd, Nat.reduceSub, Nat.reduceMul, Nat.reduceLT, Nat.reduceLeDiff, Nat.reduceEqDiff, Nat.reduceMod, Nat.reduceDiv, Int.reduceAdd, Int.reduceSub, Int.reduceMul, Int.reduceLT, Int.reduceLE, Int.reduceEq, Int.reduceNeg, Int.reduceToNat, reduceIte, reduceCtorEq, Int.reduceBEq, Int.reduceBNe, List.flatMap_nil, List.flatMap_cons, List.append_nil, List.nil_append, g7, g9, hN, List.cons_append]
            exact ⟨[_], rfl, ⟨trivial, trivial⟩, rfl, b8, p, k, p', k', p'', k'', by simp [upd, v8], by simp [upd, v6], rfl⟩
          · simp only [List.getElem?_toArray, List.getElem?_cons_zero, List.getElem?_cons_succ, Option.some.injEq] at ho; subst ho
            obtain ⟨v8, g8⟩ := hdep 8 (by kernel_rfl)
            replace g8 := g8 52 rfl
            rw [show val 8 = _ from v8] at g8
            simp only [push_cast, Nat.reduceAdd, Nat.reduceSub, Nat.reduceMul, Nat.reduceLT, Nat.reduceLeDiff, Nat.reduceEqDiff, Nat.reduceMod, Nat.reduceDiv, Int.reduceAdd, Int.reduceSub, Int.reduceMul, Int.reduceLT, Int.reduceLE, Int.reduceEq, Int.reduceNeg, Int.reduceToNat, reduceIte, reduceCtorEq, Int.reduceBEq, Int.reduceBNe, List.flatMap_nil, List.flatMap_cons, List.append_nil, List.nil_append, g8]
            exact ⟨[], rfl, trivial, rfl, upd_self _ _ _, rfl⟩
        · intro val mem hV hQ hap hwr
          obtain ⟨Nn, Na, N9, h5, w5, m5, w5a, m5a, hR9, hq4⟩ := hQ 5 (by decide)
          obtain ⟨b13, p2, q2, p2', q2', p2'', q2'', v8, v6, hN9⟩ := hQ 10 (by decide)
          obtain ⟨v56, -⟩ := hV 7 (by decide)
          obtain ⟨v54, -⟩ := hV 6 (by decide)
          have v10 : val 11 = .int .i64 1 := hV 11 (by decide)
          have v8 : val 9 = _ := v8
          have v6 : val 7 = _ := v6
          have v54 : val 6 = val 5 := v54
          have v56 : val 6 = .tuple #[val 7, .int .i64 1] := v56
          rw [← v54, v56, v6] at hq4
          obtain ⟨wM, hwM, hjA⟩ := hq4
          injection hwM with hwM
          have hwM := congrArg Array.toList hwM
          simp only [List.cons.injEq, and_true] at hwM
          obtain rfl := hwM
          have hMM : List.flatMap mem [5, 10] ++ (⟨b10, 0, .cel 37, [.slice p1 j.state.length q1, .slice p1' j.undo.length q1', .slice p1'' j.marks.length q1'']⟩ :: Mq) = (Nn ++ (Na ++ N9)) ++ (⟨b13, 0, .cel 37, [.slice p2 j.state.length q2, .slice p2' j.undo.length q2', .slice p2'' j.marks.length q2'']⟩ :: ⟨b10, 0, .cel 37, [.slice p1 j.state.length q1, .slice p1' j.undo.length q1', .slice p1'' j.marks.length q1'']⟩ :: Mq) := by
            simp only [List.flatMap_cons, List.flatMap_nil, List.append_nil, h5, hN9, List.append_assoc, List.cons_append, List.nil_append]
          rw [hMM] at hap ⊢
          have aW := freshN_apart hap (allWr_app w5 (allWr_app w5a hR9.wr.1))
          have qs := freshN_sym aW
          have hap2 := (List.pairwise_append.1 hap).2.1
          have a12 := freshN_apart (A := [⟨b13, 0, .cel 37, [.slice p2 j.state.length q2, .slice p2' j.undo.length q2', .slice p2'' j.marks.length q2'']⟩]) hap2 ⟨trivial, trivial⟩
          have hbN := a12.1
          simp only [push_cast, Nat.reduceAdd, Nat.reduceSub, Nat.reduceMul, Nat.reduceLT, Nat.reduceLeDiff, Nat.reduceEqDiff, Nat.reduceMod, Nat.reduceDiv, Int.reduceAdd, Int.reduceSub, Int.reduceMul, Int.reduceLT, Int.reduceLE, Int.reduceEq, Int.reduceNeg, Int.reduceToNat, reduceIte, reduceCtorEq, Int.reduceBEq, Int.reduceBNe] at hbN
          have hb13 := hbN
          simp only [push_cast, Nat.reduceAdd, Nat.reduceSub, Nat.reduceMul, Nat.reduceLT, Nat.reduceLeDiff, Nat.reduceEqDiff, Nat.reduceMod, Nat.reduceDiv, Int.reduceAdd, Int.reduceSub, Int.reduceMul, Int.reduceLT, Int.reduceLE, Int.reduceEq, Int.reduceNeg, Int.reduceToNat, reduceIte, reduceCtorEq, Int.reduceBEq, Int.reduceBNe, v8, v6, v10]
          refine WpV.perm (H' := N9 ++ (⟨b13, 0, .cel 37, [.slice p2 j.state.length q2, .slice p2' j.undo.length q2', .slice p2'' j.marks.length q2'']⟩ :: ⟨b10, 0, .cel 37, [.slice p1 j.state.length q1, .slice p1' j.undo.length q1', .slice p1'' j.marks.length q1'']⟩ :: (Mq ++ (Nn ++ Na)))) ?_ ?_ ?_
          · have h0 := perm_z Nn Na N9 (⟨b13, 0, .cel 37, [.slice p2 j.state.length q2, .slice p2' j.undo.length q2', .slice p2'' j.marks.length q2'']⟩ :: ⟨b10, 0, .cel 37, [.slice p1 j.state.length q1, .slice p1' j.undo.length q1', .slice p1'' j.marks.length q1'']⟩ :: Mq) _ rfl
            simp only [List.append_assoc, List.cons_append] at h0 ⊢
            exact h0
          · simp [marksOf, marks_append, m5, m5a]
          obtain ⟨M2, hM2⟩ : ∃ M2, M2 = Mq ++ (Nn ++ Na) := ⟨_, rfl⟩
          have hg2 : Gr Mq M2 := ⟨hmq, Nn ++ Na, hM2, allWr_app w5 w5a, by rw [marks_append, m5, m5a]; rfl⟩
          have hjA : JoR j (.agg #[.slice p2 j.state.length q2, .slice p2' j.undo.length q2', .slice p2'' j.marks.length q2'']) M2 := by
            have f40 := freshN_cons (freshN_cons ((freshN_appL.1 aW).1))
            have h1 := JoR.rd _ _ _ _ (cellsAt_swap f40) hjA
            exact h1.ext (Gr.ext ⟨by rw [marks_append, hmq, m5]; rfl, Na, by rw [hM2, List.append_assoc], w5a, m5a⟩)
          have sp : ∀ {b}, fresh b (Nn ++ (Na ++ N9)) → fresh b (Nn ++ Na) ∧ fresh b N9 := fun h => ⟨fresh_appS (fresh_app_iff.1 h).1 (fresh_app_iff.1 (fresh_app_iff.1 h).2).1, (fresh_app_iff.1 (fresh_app_iff.1 h).2).2⟩
          have hL13 : freshN [⟨b13, 0, .cel 37, [.slice p2 j.state.length q2, .slice p2' j.undo.length q2', .slice p2'' j.marks.length q2'']⟩, ⟨b10, 0, .cel 37, [.slice p1 j.state.length q1, .slice p1' j.undo.length q1', .slice p1'' j.marks.length q1'']⟩] M2 := by
            rw [hM2]
            exact freshN_comb ⟨hbN.2.2, hL10⟩ ⟨(sp qs.1).1, (sp qs.2.1).1, trivial⟩
          have hL13z : freshN [⟨b13, 0, .cel 37, [.slice p2 j.state.length q2, .slice p2' j.undo.length q2', .slice p2'' j.marks.length q2'']⟩, ⟨b10, 0, .cel 37, [.slice p1 j.state.length q1, .slice p1' j.undo.length q1', .slice p1'' j.marks.length q1'']⟩] N9 := ⟨(sp qs.1).2, (sp qs.2.1).2, trivial⟩
          have hR9 := hR9.find (fun b e h => hg2.find h)
          rw [← hM2]
          refine WpV.slots [(3, .int .i64 a), (9, .bool true), (10, .pointer (some ⟨b10, 0, none⟩)), (11, .slice pl ix cl), (13, .pointer (some ⟨b13, 0, none⟩)), (14, .int .i64 1)] (by simp only [push_cast, Nat.reduceAdd, Nat.reduceSub, Nat.reduceMul, Nat.reduceLT, Nat.reduceLeDiff, Nat.reduceEqDiff, Nat.reduceMod, Nat.reduceDiv, Int.reduceAdd, Int.reduceSub, Int.reduceMul, Int.reduceLT, Int.reduceLE, Int.reduceEq, Int.reduceNeg, Int.reduceToNat, reduceIte, reduceCtorEq, Int.reduceBEq, Int.reduceBNe]) ?_
          have fE9 : findE (⟨b13, 0, .cel 37, [.slice p2 j.state.length q2, .slice p2' j.undo.length q2', .slice p2'' j.marks.length q2'']⟩ :: ⟨b10, 0, .cel 37, [.slice p1 j.state.length q1, .slice p1' j.undo.length q1', .slice p1'' j.marks.length q1'']⟩ :: M2) b10 = some ⟨b10, 0, .cel 37, [.slice p1 j.state.length q1, .slice p1' j.undo.length q1', .slice p1'' j.marks.length q1'']⟩ := by
            simp only [push_cast, Nat.reduceAdd, Nat.reduceSub, Nat.reduceMul, Nat.reduceLT, Nat.reduceLeDiff, Nat.reduceEqDiff, Nat.reduceMod, Nat.reduceDiv, Int.reduceAdd, Int.reduceSub, Int.reduceMul, Int.reduceLT, Int.reduceLE, Int.reduceEq, Int.reduceNeg, Int.reduceToNat, reduceIte, reduceCtorEq, Int.reduceBEq, Int.reduceBNe, hb13]
          refine drawZ gV4_ok Tryz.mix [(3, .int .i64 a), (9, .bool true), (10, .pointer (some ⟨b10, 0, none⟩)), (11, .slice pl ix cl), (13, .pointer (some ⟨b13, 0, none⟩)), (14, .int .i64 1)]
              (fun i val => match i with
                | 0 => val 0 = .agg #[.slice p1 j.state.length q1, .slice p1' j.undo.length q1', .slice p1'' j.marks.length q1'']
                | 1 => val 1 = .slice pl ix cl
                | 2 => val 2 = bad5.v
                | 3 => ∃ b, val 3 = .slice (some ⟨b, 0, none⟩) 1 1
                | 4 => ∃ bE cE, val 4 = .slice (some ⟨bE, 0, none⟩) L9.length cE
                | 5 => ∃ p k p' k' p'' k'', val 5 = .tuple #[.agg #[.slice p j.state.length k, .slice p' j.undo.length k', .slice p'' j.marks.length k''], .int .i64 1]
                | 6 => val 6 = val 5 ∧ ∃ p k p' k' p'' k'', val 5 = .tuple #[.agg #[.slice p j.state.length k, .slice p' j.undo.length k', .slice p'' j.marks.length k''], .int .i64 1]
                | 7 => val 6 = .tuple #[val 7, .int .i64 1] ∧ ∃ p k p' k' p'' k'', val 7 = .agg #[.slice p j.state.length k, .slice p' j.undo.length k', .slice p'' j.marks.length k'']
                | 8 => val 8 = .int .i64 1
                | 9 => ∃ b, val 9 = .pointer (some ⟨b, 0, none⟩)
                | 11 => val 11 = .int .i64 1
                | _ => True)
              (fun i val N => match i with
                | 3 => ∃ b, val 3 = .slice (some ⟨b, 0, none⟩) 1 1 ∧ N = [⟨b, 0, .vec 31 31 1, bad5.cells⟩]
                | 4 => ∃ Na Nl, N = Na ++ Nl ∧ allWr Na ∧ marksOf Na = [] ∧ RowL 31 (r4.map chR) (.slice pl ix cl) Nl M2 ∧ (∃ bE cE zs, val 4 = .slice (some ⟨bE, 0, none⟩) L9.length cE ∧ findE N bE = some ⟨bE, 0, .vec 31 31 cE, L9.flatMap Ch.cells ++ zs⟩)
                | 5 => ∃ Nn Na Nl, N = Nn ++ (Na ++ Nl) ∧ allWr Nn ∧ marksOf Nn = [] ∧ allWr Na ∧ marksOf Na = [] ∧ RowL 31 (r4.map chR) (.slice pl ix cl) Nl M2 ∧ JeR (j, 1) (val 5) (Nn ++ M2)
                | 6 => N = []
                | 7 => N = []
                | 9 => ∃ b, val 9 = .pointer (some ⟨b, 0, none⟩) ∧ N = [⟨b, 0, .cel 37, [.slice none 0 0, .slice none 0 0, .slice none 0 0]⟩]
                | 10 => ∃ b p k p' k' p'' k'', val 9 = .pointer (some ⟨b, 0, none⟩) ∧ val 7 = .agg #[.slice p j.state.length k, .slice p' j.undo.length k', .slice p'' j.marks.length k''] ∧ N = [⟨b, 0, .cel 37, [.slice p j.state.length k, .slice p' j.undo.length k', .slice p'' j.marks.length k'']⟩]
                | _ => N = []) (fun i => if i = 4 then [3] else if i = 5 then [4] else if i = 10 then [9] else []) [5, 10] N9 4 hR9.wr.1 hR9.wr.2 (by decide) (by kernel_rfl) (by kernel_rfl) (by kernel_rfl) ?_ (by rfl) (by decide) (by kernel_rfl) ?_ ?_ ?_ ?_ ?_
          · simp only [push_cast, Nat.reduceAdd, Nat.reduceSub, Nat.reduceMul, Nat.reduceLT, Nat.reduceLeDiff, Nat.reduceEqDiff, Nat.reduceMod, Nat.reduceDiv, Int.reduceAdd, Int.reduceSub, Int.reduceMul, Int.reduceLT, Int.reduceLE, Int.reduceEq, Int.reduceNeg, Int.reduceToNat, reduceIte, reduceCtorEq, Int.reduceBEq, Int.reduceBNe, subT]
          · intro i hi hiF
            replace hi : i < 12 := hi
            obtain rfl | rfl | rfl | rfl | rfl | rfl | rfl | rfl | rfl | rfl | rfl | rfl : i = 0 ∨ i = 1 ∨ i = 2 ∨ i = 3 ∨ i = 4 ∨ i = 5 ∨ i = 6 ∨ i = 7 ∨ i = 8 ∨ i = 9 ∨ i = 10 ∨ i = 11 := by omega
            all_goals first
              | exact .inl fun _ _ h => h
              | exact absurd (by decide) hiF
              | exact .inr (by kernel_rfl)
          · intro i o ho val val' h1 h2 hV
            have hi := (Array.getElem?_eq_some_iff.1 ho).1
            replace hi : i < 12 := hi
            obtain rfl | rfl | rfl | rfl | rfl | rfl | rfl | rfl | rfl | rfl | rfl | rfl : i = 0 ∨ i = 1 ∨ i = 2 ∨ i = 3 ∨ i = 4 ∨ i = 5 ∨ i = 6 ∨ i = 7 ∨ i = 8 ∨ i = 9 ∨ i = 10 ∨ i = 11 := by omega
            · first
                | exact trivial
                | exact hV
                | exact h1.trans hV
                | (rw [h1]; exact hV)
            · first
                | exact trivial
                | exact hV
                | exact h1.trans hV
                | (rw [h1]; exact hV)
            · first
                | exact trivial
                | exact hV
                | exact h1.trans hV
                | (rw [h1]; exact hV)
            · first
                | exact trivial
                | exact hV
                | exact h1.trans hV
                | (rw [h1]; exact hV)
            · first
                | exact trivial
                | exact hV
                | exact h1.trans hV
                | (rw [h1]; exact hV)
            · first
                | exact trivial
                | exact hV
                | exact h1.trans hV
                | (rw [h1]; exact hV)
            · simp only [List.getElem?_toArray, List.getElem?_cons_zero, List.getElem?_cons_succ, Option.some.injEq] at ho; subst ho
              have e4 := h2 5 (by kernel_rfl)
              rw [h1, e4]
              exact hV
            · simp only [List.getElem?_toArray, List.getElem?_cons_zero, List.getElem?_cons_succ, Option.some.injEq] at ho; subst ho
              have e5 := h2 6 (by kernel_rfl)
              rw [h1, e5]
              exact hV
            · first
                | exact trivial
                | exact hV
                | exact h1.trans hV
                | (rw [h1]; exact hV)
            · first
                | exact trivial
                | exact hV
                | exact h1.trans hV
                | (rw [h1]; exact hV)
            · first
                | exact trivial
                | exact hV
                | exact h1.trans hV
                | (rw [h1]; exact hV)
            · first
                | exact trivial
                | exact hV
                | exact h1.trans hV
                | (rw [h1]; exact hV)
          · intro i o ho val val' N h1 h2 hQ
            have hi := (Array.getElem?_eq_some_iff.1 ho).1
            replace hi : i < 12 := hi
            obtain rfl | rfl | rfl | rfl | rfl | rfl | rfl | rfl | rfl | rfl | rfl | rfl : i = 0 ∨ i = 1 ∨ i = 2 ∨ i = 3 ∨ i = 4 ∨ i = 5 ∨ i = 6 ∨ i = 7 ∨ i = 8 ∨ i = 9 ∨ i = 10 ∨ i = 11 := by omega
            · first
                | exact trivial
                | exact hQ
                | exact h1.trans hQ
                | (rw [h1]; exact hQ)
            · first
                | exact trivial
                | exact hQ
                | exact h1.trans hQ
                | (rw [h1]; exact hQ)
            · first
                | exact trivial
                | exact hQ
                | exact h1.trans hQ
                | (rw [h1]; exact hQ)
            · first
                | exact trivial
                | exact hQ
                | exact h1.trans hQ
                | (rw [h1]; exact hQ)
            · first
                | exact trivial
                | exact hQ
                | exact h1.trans hQ
                | (rw [h1]; exact hQ)
            · first
                | exact trivial
                | exact hQ
                | exact h1.trans hQ
                | (rw [h1]; exact hQ)
            · first
                | exact trivial
                | exact hQ
                | exact h1.trans hQ
                | (rw [h1]; exact hQ)
            · first
                | exact trivial
                | exact hQ
                | exact h1.trans hQ
                | (rw [h1]; exact hQ)
            · first
                | exact trivial
                | exact hQ
                | exact h1.trans hQ
                | (rw [h1]; exact hQ)
            · first
                | exact trivial
                | exact hQ
                | exact h1.trans hQ
                | (rw [h1]; exact hQ)
            · simp only [List.getElem?_toArray, List.getElem?_cons_zero, List.getElem?_cons_succ, Option.some.injEq] at ho; subst ho
              have e6 := h2 7 (by kernel_rfl)
              have e8 := h2 9 (by kernel_rfl)
              rw [e6, e8]
              exact hQ
            · first
                | exact trivial
                | exact hQ
                | exact h1.trans hQ
                | (rw [h1]; exact hQ)
          · intro i o ho T' Y val mem hT hdep hus hfr hY hmY hapY
            have hi := (Array.getElem?_eq_some_iff.1 ho).1
            replace hi : i < 12 := hi
            have yj := hY _ _ fE9
            have tj : getT T' 10 = some (.pointer (some ⟨b10, 0, none⟩)) := hT.2.2.1
            have t11 : getT T' 11 = some (.slice pl ix cl) := hT.2.2.2.1
            obtain rfl | rfl | rfl | rfl | rfl | rfl | rfl | rfl | rfl | rfl | rfl | rfl : i = 0 ∨ i = 1 ∨ i = 2 ∨ i = 3 ∨ i = 4 ∨ i = 5 ∨ i = 6 ∨ i = 7 ∨ i = 8 ∨ i = 9 ∨ i = 10 ∨ i = 11 := by omega
            · simp only [List.getElem?_toArray, List.getElem?_cons_zero, List.getElem?_cons_succ, Option.some.injEq] at ho; subst ho
              simp only [push_cast, Nat.reduceAdd, Nat.reduceSub, Nat.reduceMul, Nat.reduceLT, Nat.reduceLeDiff, Nat.reduceEqDiff, Nat.reduceMod, Nat.reduceDiv, Int.reduceAdd, Int.reduceSub, Int.reduceMul, Int.reduceLT, Int.reduceLE, Int.reduceEq, Int.reduceNeg, Int.reduceToNat, reduceIte, reduceCtorEq, Int.reduceBEq, Int.reduceBNe, List.flatMap_nil, List.flatMap_cons, List.append_nil, List.nil_append, tj, yj]
              exact ⟨[], rfl, trivial, rfl, upd_self _ _ _, rfl⟩
            · simp only [List.getElem?_toArray, List.getElem?_cons_zero, List.getElem?_cons_succ, Option.some.injEq] at ho; subst ho
              simp only [push_cast, Nat.reduceAdd, Nat.reduceSub, Nat.reduceMul, Nat.reduceLT, Nat.reduceLeDiff, Nat.reduceEqDiff, Nat.reduceMod, Nat.reduceDiv, Int.reduceAdd, Int.reduceSub, Int.reduceMul, Int.reduceLT, Int.reduceLE, Int.reduceEq, Int.reduceNeg, Int.reduceToNat, reduceIte, reduceCtorEq, Int.reduceBEq, Int.reduceBNe, List.flatMap_nil, List.flatMap_cons, List.append_nil, List.nil_append, t11]
              exact ⟨[], rfl, trivial, rfl, upd_self _ _ _, rfl⟩
            · simp only [List.getElem?_toArray, List.getElem?_cons_zero, List.getElem?_cons_succ, Option.some.injEq] at ho; subst ho
              simp only [push_cast, Nat.reduceAdd, Nat.reduceSub, Nat.reduceMul, Nat.reduceLT, Nat.reduceLeDiff, Nat.reduceEqDiff, Nat.reduceMod, Nat.reduceDiv, Int.reduceAdd, Int.reduceSub, Int.reduceMul, Int.reduceLT, Int.reduceLE, Int.reduceEq, Int.reduceNeg, Int.reduceToNat, reduceIte, reduceCtorEq, Int.reduceBEq, Int.reduceBNe, List.flatMap_nil, List.flatMap_cons, List.append_nil, List.nil_append]
              exact ⟨[], rfl, trivial, rfl, upd_self _ _ _, rfl⟩
            · simp only [List.getElem?_toArray, List.getElem?_cons_zero, List.getElem?_cons_succ, Option.some.injEq] at ho; subst ho
              obtain ⟨v2, g2⟩ := hdep 2 (by kernel_rfl)
              replace g2 := g2 56 rfl
              rw [show val 2 = _ from v2] at g2
              simp only [push_cast, Nat.reduceAdd, Nat.reduceSub, Nat.reduceMul, Nat.reduceLT, Nat.reduceLeDiff, Nat.reduceEqDiff, Nat.reduceMod, Nat.reduceDiv, Int.reduceAdd, Int.reduceSub, Int.reduceMul, Int.reduceLT, Int.reduceLE, Int.reduceEq, Int.reduceNeg, Int.reduceToNat, reduceIte, reduceCtorEq, Int.reduceBEq, Int.reduceBNe, List.flatMap_nil, List.flatMap_cons, List.append_nil, List.nil_append, g2]
              intro b hf
              exact ⟨[_], rfl, ⟨trivial, trivial⟩, rfl, ⟨b, upd_self _ _ _⟩, b, upd_self _ _ _, rfl⟩
            · simp only [List.getElem?_toArray, List.getElem?_cons_zero, List.getElem?_cons_succ, Option.some.injEq] at ho; subst ho
              obtain ⟨v1, g1⟩ := hdep 1 (by kernel_rfl)
              replace g1 := g1 55 rfl
              rw [show val 1 = _ from v1] at g1
              obtain ⟨v3, g3⟩ := hdep 3 (by kernel_rfl)
              replace g3 := g3 57 rfl
              obtain ⟨bs0, v3⟩ := v3
              obtain ⟨b3', v3', hN⟩ := hus 3 (List.mem_singleton.2 rfl)
              have v3' : val 3 = _ := v3'
              rw [v3'] at g3
              have fr3 : freshN (mem 3 ++ N9) Y := by simpa using hfr
              have ap3 : ApartE (mem 3 ++ (N9 ++ Y)) := by simpa using hapY
              rw [hN] at fr3 ap3
              have hM4 : ∀ b e, findE M2 b = some e → findE Y b = some e := fun b e h => hY b e (find_behind (L := [_, _]) hL13 b e h)
              have hbsN : fresh b3' N9 := (fresh_app_iff.1 (freshN_apart (A := [⟨b3', 0, .vec 31 31 1, bad5.cells⟩]) ap3 ⟨trivial, trivial⟩).1).1
              simp only [push_cast, Nat.reduceAdd, Nat.reduceSub, Nat.reduceMul, Nat.reduceLT, Nat.reduceLeDiff, Nat.reduceEqDiff, Nat.reduceMod, Nat.reduceDiv, Int.reduceAdd, Int.reduceSub, Int.reduceMul, Int.reduceLT, Int.reduceLE, Int.reduceEq, Int.reduceNeg, Int.reduceToNat, reduceIte, reduceCtorEq, Int.reduceBEq, Int.reduceBNe, List.flatMap_nil, List.flatMap_cons, List.append_nil, List.nil_append, g1, g3, hN, List.cons_append]
              refine append_keep (q := 31) (ag := true) hR9 hM4 fr3 hbsN (by simp only [push_cast, Nat.reduceAdd, Nat.reduceSub, Nat.reduceMul, Nat.reduceLT, Nat.reduceLeDiff, Nat.reduceEqDiff, Nat.reduceMod, Nat.reduceDiv, Int.reduceAdd, Int.reduceSub, Int.reduceMul, Int.reduceLT, Int.reduceLE, Int.reduceEq, Int.reduceNeg, Int.reduceToNat, reduceIte, reduceCtorEq, Int.reduceBEq, Int.reduceBNe]) (by simp only [push_cast, Nat.reduceAdd, Nat.reduceSub, Nat.reduceMul, Nat.reduceLT, Nat.reduceLeDiff, Nat.reduceEqDiff, Nat.reduceMod, Nat.reduceDiv, Int.reduceAdd, Int.reduceSub, Int.reduceMul, Int.reduceLT, Int.reduceLE, Int.reduceEq, Int.reduceNeg, Int.reduceToNat, reduceIte, reduceCtorEq, Int.reduceBEq, Int.reduceBNe]) bad5_all (by unfold two47; rw [hlen]; omega) fun v' Na Nl h1 h2 h3 h4 => ⟨Na ++ Nl, rfl, allWr_app h1 h3.wr.1, by rw [marks_append, h2, h3.wr.2]; rfl, ?_, ?_⟩
              · rw [← hL9] at h4
                obtain ⟨bE, cE, zs, rfl, -⟩ := h4
                exact ⟨bE, cE, upd_self _ _ _⟩
              · rw [← hL9] at h4
                rw [upd_self]
                exact ⟨Na, Nl, rfl, h1, h2, h3, h4⟩
            · simp only [List.getElem?_toArray, List.getElem?_cons_zero, List.getElem?_cons_succ, Option.some.injEq] at ho; subst ho
              obtain ⟨v0, g0⟩ := hdep 0 (by kernel_rfl)
              replace g0 := g0 54 rfl
              rw [show val 0 = _ from v0] at g0
              obtain ⟨v4, g4⟩ := hdep 4 (by kernel_rfl)
              replace g4 := g4 58 rfl
              obtain ⟨bE0, c0, v4⟩ := v4
              obtain ⟨Na, Nl, hN4, w4, m4, hR4, bE, cE, zE, v4', hfE⟩ := hus 4 (List.mem_singleton.2 rfl)
              have v4' : val 4 = _ := v4'
              rw [v4'] at g4
              have fr4 : freshN (mem 4) Y := by simpa using hfr
              have hM4 : ∀ b e, findE M2 b = some e → findE Y b = some e := fun b e h => hY b e (find_behind (L := [_, _]) hL13 b e h)
              have hbE : fresh bE M2 := fresh_of fun e he hb => by
                obtain ⟨e1, h1⟩ := findE_ex he
                have h2 := findE_mem (hM4 _ _ h1)
                have h3 := freshN_iff.1 fr4 _ (findE_mem hfE).1 _ h2.1
                exact h3 (by rw [h2.2, hb])
              simp only [push_cast, Nat.reduceAdd, Nat.reduceSub, Nat.reduceMul, Nat.reduceLT, Nat.reduceLeDiff, Nat.reduceEqDiff, Nat.reduceMod, Nat.reduceDiv, Int.reduceAdd, Int.reduceSub, Int.reduceMul, Int.reduceLT, Int.reduceLE, Int.reduceEq, Int.reduceNeg, Int.reduceToNat, reduceIte, reduceCtorEq, Int.reduceBEq, Int.reduceBNe, List.flatMap_nil, List.flatMap_cons, List.append_nil, List.nil_append, g0, g4]
              refine doE_use (M := M2) (hjq.ext hg2.ext) hbE hrj hd9 (by decide) (by rw [hl9]; omega) (by rw [findE_app, hfE]) (fun b e h => find_behind fr4 _ _ (hM4 b e h)) fun w N hw hm1 hf hq => ⟨N ++ mem 4, by rw [List.append_assoc], allWr_app hw (by rw [hN4]; exact allWr_app w4 hR4.wr.1), by rw [marks_append, hm1, hN4, marks_append, m4, hR4.wr.2]; rfl, ?_, ?_⟩
              · obtain ⟨w1, rfl, hj⟩ := hq
                obtain ⟨p, k, p', k', p'', k'', rfl⟩ := hj.e3
                exact ⟨p, k, p', k', p'', k'', by rw [upd_self]⟩
              · rw [upd_self]
                exact ⟨N, Na, Nl, by rw [hN4], hw, hm1, w4, m4, hR4, hq⟩
            · simp only [List.getElem?_toArray, List.getElem?_cons_zero, List.getElem?_cons_succ, Option.some.injEq] at ho; subst ho
              obtain ⟨v5, g5⟩ := hdep 5 (by kernel_rfl)
              replace g5 := g5 59 rfl
              obtain ⟨p, k, p', k', p'', k'', v5⟩ := v5
              have v5 : val 5 = _ := v5
              rw [v5] at g5
              simp only [push_cast, Nat.reduceAdd, Nat.reduceSub, Nat.reduceMul, Nat.reduceLT, Nat.reduceLeDiff, Nat.reduceEqDiff, Nat.reduceMod, Nat.reduceDiv, Int.reduceAdd, Int.reduceSub, Int.reduceMul, Int.reduceLT, Int.reduceLE, Int.reduceEq, Int.reduceNeg, Int.reduceToNat, reduceIte, reduceCtorEq, Int.reduceBEq, Int.reduceBNe, List.flatMap_nil, List.flatMap_cons, List.append_nil, List.nil_append, g5]
              exact ⟨[], rfl, trivial, rfl, ⟨by simp [upd, v5], p, k, p', k', p'', k'', by simp [upd, v5]⟩, rfl⟩
            · simp only [List.getElem?_toArray, List.getElem?_cons_zero, List.getElem?_cons_succ, Option.some.injEq] at ho; subst ho
              obtain ⟨v6, g6⟩ := hdep 6 (by kernel_rfl)
              replace g6 := g6 53 rfl
              obtain ⟨v5, p, k, p', k', p'', k'', v4⟩ := v6
              have v5 : val 6 = _ := v5
              rw [v5, v4] at g6
              simp only [push_cast, Nat.reduceAdd, Nat.reduceSub, Nat.reduceMul, Nat.reduceLT, Nat.reduceLeDiff, Nat.reduceEqDiff, Nat.reduceMod, Nat.reduceDiv, Int.reduceAdd, Int.reduceSub, Int.reduceMul, Int.reduceLT, Int.reduceLE, Int.reduceEq, Int.reduceNeg, Int.reduceToNat, reduceIte, reduceCtorEq, Int.reduceBEq, Int.reduceBNe, List.flatMap_nil, List.flatMap_cons, List.append_nil, List.nil_append, g6]
              exact ⟨[], rfl, trivial, rfl, ⟨by simp [upd, v5, v4], p, k, p', k', p'', k'', by simp [upd]⟩, rfl⟩
            · simp only [List.getElem?_toArray, List.getElem?_cons_zero, List.getElem?_cons_succ, Option.some.injEq] at ho; subst ho
              obtain ⟨v6, g6⟩ := hdep 6 (by kernel_rfl)
              replace g6 := g6 53 rfl
              obtain ⟨v5, p, k, p', k', p'', k'', v4⟩ := v6
              have v5 : val 6 = _ := v5
              rw [v5, v4] at g6
              simp only [push_cast, Nat.reduceAdd, Nat.reduceSub, Nat.reduceMul, Nat.reduceLT, Nat.reduceLeDiff, Nat.reduceEqDiff, Nat.reduceMod, Nat.reduceDiv, Int.reduceAdd, Int.reduceSub, Int.reduceMul, Int.reduceLT, Int.reduceLE, Int.reduceEq, Int.reduceNeg, Int.reduceToNat, reduceIte, reduceCtorEq, Int.reduceBEq, Int.reduceBNe, List.flatMap_nil, List.flatMap_cons, List.append_nil, List.nil_append, g6]
              exact ⟨[], rfl, trivial, rfl, upd_self _ _ _, rfl⟩
            · simp only [List.getElem?_toArray, List.getElem?_cons_zero, List.getElem?_cons_succ, Option.some.injEq] at ho; subst ho
              simp only [push_cast, Nat.reduceAdd, Nat.reduceSub, Nat.reduceMul, Nat.reduceLT, Nat.reduceLeDiff, Nat.reduceEqDiff, Nat.reduceMod, Nat.reduceDiv, Int.reduceAdd, Int.reduceSub, Int.reduceMul, Int.reduceLT, Int.reduceLE, Int.reduceEq, Int.reduceNeg, Int.reduceToNat, reduceIte, reduceCtorEq, Int.reduceBEq, Int.reduceBNe, List.flatMap_nil, List.flatMap_cons, List.append_nil, List.nil_append]
              intro b hf
              exact ⟨[_], rfl, ⟨trivial, trivial⟩, rfl, ⟨b, upd_self _ _ _⟩, b, upd_self _ _ _, rfl⟩
            · simp only [List.getElem?_toArray, List.getElem?_cons_zero, List.getElem?_cons_succ, Option.some.injEq] at ho; subst ho
              obtain ⟨v7, g7⟩ := hdep 7 (by kernel_rfl)
              replace g7 := g7 60 rfl
              obtain ⟨v9, g9⟩ := hdep 9 (by kernel_rfl)
              replace g9 := g9 15 rfl
              obtain ⟨-, p, k, p', k', p'', k'', v6⟩ := v7
              have v6 : val 7 = _ := v6
              rw [v6] at g7
              obtain ⟨b8, v8, hN⟩ := hus 9 (List.mem_singleton.2 rfl)
              have v8 : val 9 = _ := v8
              rw [v8] at g9
              simp only [push_cast, Nat.reduceAdd, Nat.reduceSub, Nat.reduceMul, Nat.reduceLT, Nat.reduceLeDiff, Nat.reduceEqDiff, Nat.reduceMod, Nat.reduceDiv, Int.reduceAdd, Int.reduceSub, Int.reduceMul, Int.reduceLT, Int.reduceLE, Int.reduceEq, Int.reduceNeg, Int.reduceToNat, reduceIte, reduceCtorEq, Int.reduceBEq, Int.reduceBNe, List.flatMap_nil, List.flatMap_cons, List.append_nil, List.nil_append, g7, g9, hN, List.cons_append]
              exact ⟨[_], rfl, ⟨trivial, trivial⟩, rfl, b8, p, k, p', k', p'', k'', by simp [upd, v8], by simp [upd, v6], rfl⟩
            · simp only [List.getElem?_toArray, List.getElem?_cons_zero, List.getElem?_cons_succ, Option.some.injEq] at ho; subst ho
              obtain ⟨v8, g8⟩ := hdep 8 (by kernel_rfl)
              replace g8 := g8 61 rfl
              rw [show val 8 = _ from v8] at g8
              simp only [push_cast, Nat.reduceAdd, Nat.reduceSub, Nat.reduceMul, Nat.reduceLT, Nat.reduceLeDiff, Nat.reduceEqDiff, Nat.reduceMod, Nat.reduceDiv, Int.reduceAdd, Int.reduceSub, Int.reduceMul, Int.reduceLT, Int.reduceLE, Int.reduceEq, Int.reduceNeg, Int.reduceToNat, reduceIte, reduceCtorEq, Int.reduceBEq, Int.reduceBNe, List.flatMap_nil, List.flatMap_cons, List.append_nil, List.nil_append, g8]
              exact ⟨[], rfl, trivial, rfl, upd_self _ _ _, rfl⟩
          · intro val mem hV hQ hap hwr
            obtain ⟨Nn, Na, NA, h5, w5, m5, w5a, m5a, hRA, hq4⟩ := hQ 5 (by decide)
            obtain ⟨b15, p3, q3, p3', q3', p3'', q3'', v8, v6, hN9⟩ := hQ 10 (by decide)
            obtain ⟨v56, -⟩ := hV 7 (by decide)
            obtain ⟨v54, -⟩ := hV 6 (by decide)
            have v10 : val 11 = .int .i64 1 := hV 11 (by decide)
            have v8 : val 9 = _ := v8
            have v6 : val 7 = _ := v6
            have v54 : val 6 = val 5 := v54
            have v56 : val 6 = .tuple #[val 7, .int .i64 1] := v56
            rw [← v54, v56, v6] at hq4
            obtain ⟨wM, hwM, hjB⟩ := hq4
            injection hwM with hwM
            have hwM := congrArg Array.toList hwM
            simp only [List.cons.injEq, and_true] at hwM
            obtain rfl := hwM
            have hMM : List.flatMap mem [5, 10] ++ (⟨b13, 0, .cel 37, [.slice p2 j.state.length q2, .slice p2' j.undo.length q2', .slice p2'' j.marks.length q2'']⟩ :: ⟨b10, 0, .cel 37, [.slice p1 j.state.length q1, .slice p1' j.undo.length q1', .slice p1'' j.marks.length q1'']⟩ :: M2) = (Nn ++ (Na ++ NA)) ++ (⟨b15, 0, .cel 37, [.slice p3 j.state.length q3, .slice p3' j.undo.length q3', .slice p3'' j.marks.length q3'']⟩ :: ⟨b13, 0, .cel 37, [.slice p2 j.state.length q2, .slice p2' j.undo.length q2', .slice p2'' j.marks.length q2'']⟩ :: ⟨b10, 0, .cel 37, [.slice p1 j.state.length q1, .slice p1' j.undo.length q1', .slice p1'' j.marks.length q1'']⟩ :: M2) := by
              simp only [List.flatMap_cons, List.flatMap_nil, List.append_nil, h5, hN9, List.append_assoc, List.cons_append, List.nil_append]
            rw [hMM] at hap ⊢
            have aW := freshN_apart hap (allWr_app w5 (allWr_app w5a hRA.wr.1))
            have qs := freshN_sym aW
            have hap2 := (List.pairwise_append.1 hap).2.1
            have a12 := freshN_apart (A := [⟨b15, 0, .cel 37, [.slice p3 j.state.length q3, .slice p3' j.undo.length q3', .slice p3'' j.marks.length q3'']⟩]) hap2 ⟨trivial, trivial⟩
            have hbN := a12.1
            simp only [push_cast, Nat.reduceAdd, Nat.reduceSub, Nat.reduceMul, Nat.reduceLT, Nat.reduceLeDiff, Nat.reduceEqDiff, Nat.reduceMod, Nat.reduceDiv, Int.reduceAdd, Int.reduceSub, Int.reduceMul, Int.reduceLT, Int.reduceLE, Int.reduceEq, Int.reduceNeg, Int.reduceToNat, reduceIte, reduceCtorEq, Int.reduceBEq, Int.reduceBNe] at hbN
            have hb15 := hbN
            simp only [push_cast, Nat.reduceAdd, Nat.reduceSub, Nat.reduceMul, Nat.reduceLT, Nat.reduceLeDiff, Nat.reduceEqDiff, Nat.reduceMod, Nat.reduceDiv, Int.reduceAdd, Int.reduceSub, Int.reduceMul, Int.reduceLT, Int.reduceLE, Int.reduceEq, Int.reduceNeg, Int.reduceToNat, reduceIte, reduceCtorEq, Int.reduceBEq, Int.reduceBNe, v8, v6, v10]
            refine WpV.perm (H' := NA ++ (⟨b15, 0, .cel 37, [.slice p3 j.state.length q3, .slice p3' j.undo.length q3', .slice p3'' j.marks.length q3'']⟩ :: ⟨b13, 0, .cel 37, [.slice p2 j.state.length q2, .slice p2' j.undo.length q2', .slice p2'' j.marks.length q2'']⟩ :: ⟨b10, 0, .cel 37, [.slice p1 j.state.length q1, .slice p1' j.undo.length q1', .slice p1'' j.marks.length q1'']⟩ :: (M2 ++ (Nn ++ Na)))) ?_ ?_ ?_
            · have h0 := perm_z Nn Na NA (⟨b15, 0, .cel 37, [.slice p3 j.state.length q3, .slice p3' j.undo.length q3', .slice p3'' j.marks.length q3'']⟩ :: ⟨b13, 0, .cel 37, [.slice p2 j.state.length q2, .slice p2' j.undo.length q2', .slice p2'' j.marks.length q2'']⟩ :: ⟨b10, 0, .cel 37, [.slice p1 j.state.length q1, .slice p1' j.undo.length q1', .slice p1'' j.marks.length q1'']⟩ :: M2) _ rfl
              simp only [List.append_assoc, List.cons_append] at h0 ⊢
              exact h0
            · simp [marksOf, marks_append, m5, m5a]
            obtain ⟨M3, hM3⟩ : ∃ M3, M3 = M2 ++ (Nn ++ Na) := ⟨_, rfl⟩
            have hg3 : Gr M2 M3 := ⟨hg2.marks, Nn ++ Na, hM3, allWr_app w5 w5a, by rw [marks_append, m5, m5a]; rfl⟩
            have hjB : JoR j (.agg #[.slice p3 j.state.length q3, .slice p3' j.undo.length q3', .slice p3'' j.marks.length q3'']) M3 := by
              have f40 := freshN_cons (freshN_cons (freshN_cons ((freshN_appL.1 aW).1)))
              have h1 := JoR.rd _ _ _ _ (cellsAt_swap f40) hjB
              exact h1.ext (Gr.ext ⟨by rw [marks_append, hg2.marks, m5]; rfl, Na, by rw [hM3, List.append_assoc], w5a, m5a⟩)
            have sp : ∀ {b}, fresh b (Nn ++ (Na ++ NA)) → fresh b (Nn ++ Na) ∧ fresh b NA := fun h => ⟨fresh_appS (fresh_app_iff.1 h).1 (fresh_app_iff.1 (fresh_app_iff.1 h).2).1, (fresh_app_iff.1 (fresh_app_iff.1 h).2).2⟩
            have hL15 : freshN [⟨b15, 0, .cel 37, [.slice p3 j.state.length q3, .slice p3' j.undo.length q3', .slice p3'' j.marks.length q3'']⟩, ⟨b13, 0, .cel 37, [.slice p2 j.state.length q2, .slice p2' j.undo.length q2', .slice p2'' j.marks.length q2'']⟩, ⟨b10, 0, .cel 37, [.slice p1 j.state.length q1, .slice p1' j.undo.length q1', .slice p1'' j.marks.length q1'']⟩] M3 := by
              rw [hM3]
              exact freshN_comb ⟨hbN.2.2.2.2, hL13⟩ ⟨(sp qs.1).1, (sp qs.2.1).1, (sp qs.2.2.1).1, trivial⟩
            have hL15z : freshN [⟨b15, 0, .cel 37, [.slice p3 j.state.length q3, .slice p3' j.undo.length q3', .slice p3'' j.marks.length q3'']⟩, ⟨b13, 0, .cel 37, [.slice p2 j.state.length q2, .slice p2' j.undo.length q2', .slice p2'' j.marks.length q2'']⟩, ⟨b10, 0, .cel 37, [.slice p1 j.state.length q1, .slice p1' j.undo.length q1', .slice p1'' j.marks.length q1'']⟩] NA := ⟨(sp qs.1).2, (sp qs.2.1).2, (sp qs.2.2.1).2, trivial⟩
            have hRA := hRA.find (fun b e h => hg3.find h)
            rw [← hM3]
            refine WpV.slots [(3, .int .i64 a), (9, .bool true), (10, .pointer (some ⟨b10, 0, none⟩)), (11, .slice pl ix cl), (13, .pointer (some ⟨b13, 0, none⟩)), (14, .int .i64 1), (15, .pointer (some ⟨b15, 0, none⟩)), (16, .int .i64 1)] (by simp only [push_cast, Nat.reduceAdd, Nat.reduceSub, Nat.reduceMul, Nat.reduceLT, Nat.reduceLeDiff, Nat.reduceEqDiff, Nat.reduceMod, Nat.reduceDiv, Int.reduceAdd, Int.reduceSub, Int.reduceMul, Int.reduceLT, Int.reduceLE, Int.reduceEq, Int.reduceNeg, Int.reduceToNat, reduceIte, reduceCtorEq, Int.reduceBEq, Int.reduceBNe]) ?_
            have hpm := List.perm_append_comm (l₁ := NA) (l₂ := ⟨b15, 0, .cel 37, [.slice p3 j.state.length q3, .slice p3' j.undo.length q3', .slice p3'' j.marks.length q3'']⟩ :: ⟨b13, 0, .cel 37, [.slice p2 j.state.length q2, .slice p2' j.undo.length q2', .slice p2'' j.marks.length q2'']⟩ :: ⟨b10, 0, .cel 37, [.slice p1 j.state.length q1, .slice p1' j.undo.length q1', .slice p1'' j.marks.length q1'']⟩ :: M3)
            refine WpV.perm hpm (by simp [marks_append, marksOf, hRA.wr.2, hg3.marks]) ?_
            obtain ⟨M4, hM4⟩ : ∃ M4, M4 = M3 ++ NA := ⟨_, rfl⟩
            have hg4 : Gr M3 M4 := ⟨hg3.marks, NA, hM4, hRA.wr.1, hRA.wr.2⟩
            have hL4 : freshN [⟨b15, 0, .cel 37, [.slice p3 j.state.length q3, .slice p3' j.undo.length q3', .slice p3'' j.marks.length q3'']⟩, ⟨b13, 0, .cel 37, [.slice p2 j.state.length q2, .slice p2' j.undo.length q2', .slice p2'' j.marks.length q2'']⟩, ⟨b10, 0, .cel 37, [.slice p1 j.state.length q1, .slice p1' j.undo.length q1', .slice p1'' j.marks.length q1'']⟩] M4 := by rw [hM4]; exact freshN_comb hL15 hL15z
            rw [show (⟨b15, 0, .cel 37, [.slice p3 j.state.length q3, .slice p3' j.undo.length q3', .slice p3'' j.marks.length q3'']⟩ :: ⟨b13, 0, .cel 37, [.slice p2 j.state.length q2, .slice p2' j.undo.length q2', .slice p2'' j.marks.length q2'']⟩ :: ⟨b10, 0, .cel 37, [.slice p1 j.state.length q1, .slice p1' j.undo.length q1', .slice p1'' j.marks.length q1'']⟩ :: M3) ++ NA = ⟨b15, 0, .cel 37, [.slice p3 j.state.length q3, .slice p3' j.undo.length q3', .slice p3'' j.marks.length q3'']⟩ :: ⟨b13, 0, .cel 37, [.slice p2 j.state.length q2, .slice p2' j.undo.length q2', .slice p2'' j.marks.length q2'']⟩ :: ⟨b10, 0, .cel 37, [.slice p1 j.state.length q1, .slice p1' j.undo.length q1', .slice p1'' j.marks.length q1'']⟩ :: (M3 ++ NA) from rfl, ← hM4]
            have hkp0 := pickN_lt a (show (0 : Int) < 9 by decide)
            obtain ⟨kp, hkp⟩ : ∃ kp, kp = pickN a 9 := ⟨_, rfl⟩
            rw [← hkp] at hkp0
            have e1 : -9223372036854775808 ≤ (j.marks.length : Int) + (kp : Int) ∧ (j.marks.length : Int) + (kp : Int) ≤ 9223372036854775807 := by omega
            have e2 : -9223372036854775808 ≤ -1 - (kp : Int) ∧ -1 - (kp : Int) ≤ 9223372036854775807 := by omega
            have hj4 := hjq.ext (hg2.trans (hg3.trans hg4)).ext
            refine drawO gV4_ok Tryz.mix (Tryz.pl6 10) (by kernel_rfl) ?_
            simp only [push_cast, Nat.reduceAdd, Nat.reduceSub, Nat.reduceMul, Nat.reduceLT, Nat.reduceLeDiff, Nat.reduceEqDiff, Nat.reduceMod, Nat.reduceDiv, Int.reduceAdd, Int.reduceSub, Int.reduceMul, Int.reduceLT, Int.reduceLE, Int.reduceEq, Int.reduceNeg, Int.reduceToNat, reduceIte, reduceCtorEq, Int.reduceBEq, Int.reduceBNe, hb13, hb15, ha, j9, ← hkp, wrap_i64' e1]
            refine regO gV4_ok ?_
            simp only [push_cast, Nat.reduceAdd, Nat.reduceSub, Nat.reduceMul, Nat.reduceLT, Nat.reduceLeDiff, Nat.reduceEqDiff, Nat.reduceMod, Nat.reduceDiv, Int.reduceAdd, Int.reduceSub, Int.reduceMul, Int.reduceLT, Int.reduceLE, Int.reduceEq, Int.reduceNeg, Int.reduceToNat, reduceIte, reduceCtorEq, Int.reduceBEq, Int.reduceBNe, hb13, hb15]
            refine useL [_, _, _] (jback_R (m := (j.marks.length : Int) + (kp : Int)) hj4 hrj) (JeR.rd _) hg4.marks hL4 fun w M5 hg5 hL5 hq5 => ?_
            rw [backJ_no hrj (.inr (by omega))] at hq5
            obtain ⟨w1, rfl, hjC⟩ := hq5
            obtain ⟨p4, q4, p4', q4', p4'', q4'', rfl⟩ := hjC.e3
            simp only [push_cast, Nat.reduceAdd, Nat.reduceSub, Nat.reduceMul, Nat.reduceLT, Nat.reduceLeDiff, Nat.reduceEqDiff, Nat.reduceMod, Nat.reduceDiv, Int.reduceAdd, Int.reduceSub, Int.reduceMul, Int.reduceLT, Int.reduceLE, Int.reduceEq, Int.reduceNeg, Int.reduceToNat, reduceIte, reduceCtorEq, Int.reduceBEq, Int.reduceBNe, hb13, hb15]
            intro b18 hb18
            have hL18 : freshN [⟨b18, 0, .cel 37, [.slice p4 j.state.length q4, .slice p4' j.undo.length q4', .slice p4'' j.marks.length q4'']⟩, ⟨b15, 0, .cel 37, [.slice p3 j.state.length q3, .slice p3' j.undo.length q3', .slice p3'' j.marks.length q3'']⟩, ⟨b13, 0, .cel 37, [.slice p2 j.state.length q2, .slice p2' j.undo.length q2', .slice p2'' j.marks.length q2'']⟩, ⟨b10, 0, .cel 37, [.slice p1 j.state.length q1, .slice p1' j.undo.length q1', .slice p1'' j.marks.length q1'']⟩] M5 := ⟨hb18.2.2.2.2.2.2, hL5⟩
            have cK : CallsR Tryz.prog 24 [.agg #[.slice p1 j.state.length q1, .slice p1' j.undo.length q1', .slice p1'' j.marks.length q1''], .int .i64 (-1 - (kp : Int))] M5 (JeR (j, 20)) := by
              have := jkeepE (m := -1 - (kp : Int)) (hj4.ext hg5.ext) hrj
              rw [keepJ_no hrj (.inl (by omega))] at this
              exact this
            have fE12 : findE (⟨b18, 0, .cel 37, [.slice p4 j.state.length q4, .slice p4' j.undo.length q4', .slice p4'' j.marks.length q4'']⟩ :: ⟨b15, 0, .cel 37, [.slice p3 j.state.length q3, .slice p3' j.undo.length q3', .slice p3'' j.marks.length q3'']⟩ :: ⟨b13, 0, .cel 37, [.slice p2 j.state.length q2, .slice p2' j.undo.length q2', .slice p2'' j.marks.length q2'']⟩ :: ⟨b10, 0, .cel 37, [.slice p1 j.state.length q1, .slice p1' j.undo.length q1', .slice p1'' j.marks.length q1'']⟩ :: M5) b10 = some ⟨b10, 0, .cel 37, [.slice p1 j.state.length q1, .slice p1' j.undo.length q1', .slice p1'' j.marks.length q1'']⟩ := by
              simp only [push_cast, Nat.reduceAdd, Nat.reduceSub, Nat.reduceMul, Nat.reduceLT, Nat.reduceLeDiff, Nat.reduceEqDiff, Nat.reduceMod, Nat.reduceDiv, Int.reduceAdd, Int.reduceSub, Int.reduceMul, Int.reduceLT, Int.reduceLE, Int.reduceEq, Int.reduceNeg, Int.reduceToNat, reduceIte, reduceCtorEq, Int.reduceBEq, Int.reduceBNe, hb13, hb15, hb18]
            refine drawS gV4_ok Tryz.mix [(3, .int .i64 a), (9, .bool true), (10, .pointer (some ⟨b10, 0, none⟩)), (13, .pointer (some ⟨b13, 0, none⟩)), (14, .int .i64 1), (15, .pointer (some ⟨b15, 0, none⟩)), (16, .int .i64 1), (18, .pointer (some ⟨b18, 0, none⟩)), (19, .int .i64 20)]
                (fun i val => match i with
                  | 0 => val 0 = .agg #[.slice p1 j.state.length q1, .slice p1' j.undo.length q1', .slice p1'' j.marks.length q1'']
                  | 1 => val 1 = .int .i64 a
                  | 2 => val 2 = .int .i64 kp
                  | 3 => val 3 = .int .i64 (-1 - (kp : Int))
                  | 4 => ∃ p k p' k' p'' k'', val 4 = .tuple #[.agg #[.slice p j.state.length k, .slice p' j.undo.length k', .slice p'' j.marks.length k''], .int .i64 20]
                  | 5 => val 5 = val 4 ∧ ∃ p k p' k' p'' k'', val 4 = .tuple #[.agg #[.slice p j.state.length k, .slice p' j.undo.length k', .slice p'' j.marks.length k''], .int .i64 20]
                  | 6 => val 5 = .tuple #[val 6, .int .i64 20] ∧ ∃ p k p' k' p'' k'', val 6 = .agg #[.slice p j.state.length k, .slice p' j.undo.length k', .slice p'' j.marks.length k'']
                  | 7 => val 7 = .int .i64 20
                  | 8 => ∃ b, val 8 = .pointer (some ⟨b, 0, none⟩)
                  | 10 => val 10 = .int .i64 20
                  | _ => True)
                (fun i val N => match i with
                  | 4 => allWr N ∧ marksOf N = [] ∧ JeR (j, 20) (val 4) (N ++ M5)
                  | 5 => N = []
                  | 6 => N = []
                  | 8 => ∃ b, val 8 = .pointer (some ⟨b, 0, none⟩) ∧ N = [⟨b, 0, .cel 37, [.slice none 0 0, .slice none 0 0, .slice none 0 0]⟩]
                  | 9 => ∃ b p k p' k' p'' k'', val 8 = .pointer (some ⟨b, 0, none⟩) ∧ val 6 = .agg #[.slice p j.state.length k, .slice p' j.undo.length k', .slice p'' j.marks.length k''] ∧ N = [⟨b, 0, .cel 37, [.slice p j.state.length k, .slice p' j.undo.length k', .slice p'' j.marks.length k'']⟩]
                  | _ => N = []) (fun i => if i = 9 then [8] else []) [4, 9] (by kernel_rfl) (by kernel_rfl) (by kernel_rfl) ?_ (by rfl) (by decide) (by kernel_rfl) ?_ ?_ ?_ ?_ ?_
            · simp only [push_cast, Nat.reduceAdd, Nat.reduceSub, Nat.reduceMul, Nat.reduceLT, Nat.reduceLeDiff, Nat.reduceEqDiff, Nat.reduceMod, Nat.reduceDiv, Int.reduceAdd, Int.reduceSub, Int.reduceMul, Int.reduceLT, Int.reduceLE, Int.reduceEq, Int.reduceNeg, Int.reduceToNat, reduceIte, reduceCtorEq, Int.reduceBEq, Int.reduceBNe, subT]
            · intro i hi hiF
              replace hi : i < 11 := hi
              obtain rfl | rfl | rfl | rfl | rfl | rfl | rfl | rfl | rfl | rfl | rfl : i = 0 ∨ i = 1 ∨ i = 2 ∨ i = 3 ∨ i = 4 ∨ i = 5 ∨ i = 6 ∨ i = 7 ∨ i = 8 ∨ i = 9 ∨ i = 10 := by omega
              all_goals first
                | exact .inl fun _ _ h => h
                | exact absurd (by decide) hiF
                | exact .inr (by kernel_rfl)
            · intro i o ho val val' h1 h2 hV
              have hi := (Array.getElem?_eq_some_iff.1 ho).1
              replace hi : i < 11 := hi
              obtain rfl | rfl | rfl | rfl | rfl | rfl | rfl | rfl | rfl | rfl | rfl : i = 0 ∨ i = 1 ∨ i = 2 ∨ i = 3 ∨ i = 4 ∨ i = 5 ∨ i = 6 ∨ i = 7 ∨ i = 8 ∨ i = 9 ∨ i = 10 := by omega
              · first
                  | exact trivial
                  | exact hV
                  | exact h1.trans hV
                  | (rw [h1]; exact hV)
              · first
                  | exact trivial
                  | exact hV
                  | exact h1.trans hV
                  | (rw [h1]; exact hV)
              · first
                  | exact trivial
                  | exact hV
                  | exact h1.trans hV
                  | (rw [h1]; exact hV)
              · first
                  | exact trivial
                  | exact hV
                  | exact h1.trans hV
                  | (rw [h1]; exact hV)
              · first
                  | exact trivial
                  | exact hV
                  | exact h1.trans hV
                  | (rw [h1]; exact hV)
              · simp only [List.getElem?_toArray, List.getElem?_cons_zero, List.getElem?_cons_succ, Option.some.injEq] at ho; subst ho
                have e4 := h2 4 (by kernel_rfl)
                rw [h1, e4]
                exact hV
              · simp only [List.getElem?_toArray, List.getElem?_cons_zero, List.getElem?_cons_succ, Option.some.injEq] at ho; subst ho
                have e5 := h2 5 (by kernel_rfl)
                rw [h1, e5]
                exact hV
              · first
                  | exact trivial
                  | exact hV
                  | exact h1.trans hV
                  | (rw [h1]; exact hV)
              · first
                  | exact trivial
                  | exact hV
                  | exact h1.trans hV
                  | (rw [h1]; exact hV)
              · first
                  | exact trivial
                  | exact hV
                  | exact h1.trans hV
                  | (rw [h1]; exact hV)
              · first
                  | exact trivial
                  | exact hV
                  | exact h1.trans hV
                  | (rw [h1]; exact hV)
            · intro i o ho val val' N h1 h2 hQ
              have hi := (Array.getElem?_eq_some_iff.1 ho).1
              replace hi : i < 11 := hi
              obtain rfl | rfl | rfl | rfl | rfl | rfl | rfl | rfl | rfl | rfl | rfl : i = 0 ∨ i = 1 ∨ i = 2 ∨ i = 3 ∨ i = 4 ∨ i = 5 ∨ i = 6 ∨ i = 7 ∨ i = 8 ∨ i = 9 ∨ i = 10 := by omega
              · first
                  | exact trivial
                  | exact hQ
                  | exact h1.trans hQ
                  | (rw [h1]; exact hQ)
              · first
                  | exact trivial
                  | exact hQ
                  | exact h1.trans hQ
                  | (rw [h1]; exact hQ)
              · first
                  | exact trivial
                  | exact hQ
                  | exact h1.trans hQ
                  | (rw [h1]; exact hQ)
              · first
                  | exact trivial
                  | exact hQ
                  | exact h1.trans hQ
                  | (rw [h1]; exact hQ)
              · first
                  | exact trivial
                  | exact hQ
                  | exact h1.trans hQ
                  | (rw [h1]; exact hQ)
              · first
                  | exact trivial
                  | exact hQ
                  | exact h1.trans hQ
                  | (rw [h1]; exact hQ)
              · first
                  | exact trivial
                  | exact hQ
                  | exact h1.trans hQ
                  | (rw [h1]; exact hQ)
              · first
                  | exact trivial
                  | exact hQ
                  | exact h1.trans hQ
                  | (rw [h1]; exact hQ)
              · first
                  | exact trivial
                  | exact hQ
                  | exact h1.trans hQ
                  | (rw [h1]; exact hQ)
              · simp only [List.getElem?_toArray, List.getElem?_cons_zero, List.getElem?_cons_succ, Option.some.injEq] at ho; subst ho
                have e6 := h2 6 (by kernel_rfl)
                have e8 := h2 8 (by kernel_rfl)
                rw [e6, e8]
                exact hQ
              · first
                  | exact trivial
                  | exact hQ
                  | exact h1.trans hQ
                  | (rw [h1]; exact hQ)
            · intro i o ho T' Y val mem hT hdep hus hfr hY hmY hapY
              have hi := (Array.getElem?_eq_some_iff.1 ho).1
              replace hi : i < 11 := hi
              have yj := hY _ _ fE12
              have tj : getT T' 10 = some (.pointer (some ⟨b10, 0, none⟩)) := hT.2.2.1
              have t3 : getT T' 3 = some (.int .i64 a) := hT.1
              obtain rfl | rfl | rfl | rfl | rfl | rfl | rfl | rfl | rfl | rfl | rfl : i = 0 ∨ i = 1 ∨ i = 2 ∨ i = 3 ∨ i = 4 ∨ i = 5 ∨ i = 6 ∨ i = 7 ∨ i = 8 ∨ i = 9 ∨ i = 10 := by omega
              · simp only [List.getElem?_toArray, List.getElem?_cons_zero, List.getElem?_cons_succ, Option.some.injEq] at ho; subst ho
                simp only [push_cast, Nat.reduceAdd, Nat.reduceSub, Nat.reduceMul, Nat.reduceLT, Nat.reduceLeDiff, Nat.reduceEqDiff, Nat.reduceMod, Nat.reduceDiv, Int.reduceAdd, Int.reduceSub, Int.reduceMul, Int.reduceLT, Int.reduceLE, Int.reduceEq, Int.reduceNeg, Int.reduceToNat, reduceIte, reduceCtorEq, Int.reduceBEq, Int.reduceBNe, List.flatMap_nil, List.flatMap_cons, List.append_nil, List.nil_append, tj, yj]
                exact ⟨[], rfl, trivial, rfl, upd_self _ _ _, rfl⟩
              · simp only [List.getElem?_toArray, List.getElem?_cons_zero, List.getElem?_cons_succ, Option.some.injEq] at ho; subst ho
                simp only [push_cast, Nat.reduceAdd, Nat.reduceSub, Nat.reduceMul, Nat.reduceLT, Nat.reduceLeDiff, Nat.reduceEqDiff, Nat.reduceMod, Nat.reduceDiv, Int.reduceAdd, Int.reduceSub, Int.reduceMul, Int.reduceLT, Int.reduceLE, Int.reduceEq, Int.reduceNeg, Int.reduceToNat, reduceIte, reduceCtorEq, Int.reduceBEq, Int.reduceBNe, List.flatMap_nil, List.flatMap_cons, List.append_nil, List.nil_append, t3]
                exact ⟨[], rfl, trivial, rfl, upd_self _ _ _, rfl⟩
              · simp only [List.getElem?_toArray, List.getElem?_cons_zero, List.getElem?_cons_succ, Option.some.injEq] at ho; subst ho
                obtain ⟨v1, g1⟩ := hdep 1 (by kernel_rfl)
                replace g1 := g1 76 rfl
                rw [show val 1 = _ from v1] at g1
                simp only [push_cast, Nat.reduceAdd, Nat.reduceSub, Nat.reduceMul, Nat.reduceLT, Nat.reduceLeDiff, Nat.reduceEqDiff, Nat.reduceMod, Nat.reduceDiv, Int.reduceAdd, Int.reduceSub, Int.reduceMul, Int.reduceLT, Int.reduceLE, Int.reduceEq, Int.reduceNeg, Int.reduceToNat, reduceIte, reduceCtorEq, Int.reduceBEq, Int.reduceBNe, List.flatMap_nil, List.flatMap_cons, List.append_nil, List.nil_append, g1, ha, j9, ← hkp]
                exact ⟨[], rfl, trivial, rfl, upd_self _ _ _, rfl⟩
              · simp only [List.getElem?_toArray, List.getElem?_cons_zero, List.getElem?_cons_succ, Option.some.injEq] at ho; subst ho
                obtain ⟨v2, g2⟩ := hdep 2 (by kernel_rfl)
                replace g2 := g2 77 rfl
                rw [show val 2 = _ from v2] at g2
                simp only [push_cast, Nat.reduceAdd, Nat.reduceSub, Nat.reduceMul, Nat.reduceLT, Nat.reduceLeDiff, Nat.reduceEqDiff, Nat.reduceMod, Nat.reduceDiv, Int.reduceAdd, Int.reduceSub, Int.reduceMul, Int.reduceLT, Int.reduceLE, Int.reduceEq, Int.reduceNeg, Int.reduceToNat, reduceIte, reduceCtorEq, Int.reduceBEq, Int.reduceBNe, List.flatMap_nil, List.flatMap_cons, List.append_nil, List.nil_append, g2, wrap_i64' e2]
                exact ⟨[], rfl, trivial, rfl, upd_self _ _ _, rfl⟩
              · simp only [List.getElem?_toArray, List.getElem?_cons_zero, List.getElem?_cons_succ, Option.some.injEq] at ho; subst ho
                obtain ⟨v0, g0⟩ := hdep 0 (by kernel_rfl)
                replace g0 := g0 75 rfl
                rw [show val 0 = _ from v0] at g0
                obtain ⟨v3, g3⟩ := hdep 3 (by kernel_rfl)
                replace g3 := g3 78 rfl
                rw [show val 3 = _ from v3] at g3
                simp only [push_cast, Nat.reduceAdd, Nat.reduceSub, Nat.reduceMul, Nat.reduceLT, Nat.reduceLeDiff, Nat.reduceEqDiff, Nat.reduceMod, Nat.reduceDiv, Int.reduceAdd, Int.reduceSub, Int.reduceMul, Int.reduceLT, Int.reduceLE, Int.reduceEq, Int.reduceNeg, Int.reduceToNat, reduceIte, reduceCtorEq, Int.reduceBEq, Int.reduceBNe, List.flatMap_nil, List.flatMap_cons, List.append_nil, List.nil_append, g0, g3]
                refine callS (M := M5) cK (JeR.rd _) (fun b e h => hY b e (find_behind (L := [_, _, _, _]) hL18 b e h)) fun w N hw hm1 hf hq => ⟨N, rfl, hw, hm1, ?_, ?_⟩
                · obtain ⟨w1, rfl, hj⟩ := hq
                  obtain ⟨p, k, p', k', p'', k'', rfl⟩ := hj.e3
                  exact ⟨p, k, p', k', p'', k'', by rw [upd_self]⟩
                · rw [upd_self]
                  exact ⟨hw, hm1, hq⟩
              · simp only [List.getElem?_toArray, List.getElem?_cons_zero, List.getElem?_cons_succ, Option.some.injEq] at ho; subst ho
                obtain ⟨v4, g4⟩ := hdep 4 (by kernel_rfl)
                replace g4 := g4 79 rfl
                obtain ⟨p, k, p', k', p'', k'', v4⟩ := v4
                have v4 : val 4 = _ := v4
                rw [v4] at g4
                simp only [push_cast, Nat.reduceAdd, Nat.reduceSub, Nat.reduceMul, Nat.reduceLT, Nat.reduceLeDiff, Nat.reduceEqDiff, Nat.reduceMod, Nat.reduceDiv, Int.reduceAdd, Int.reduceSub, Int.reduceMul, Int.reduceLT, Int.reduceLE, Int.reduceEq, Int.reduceNeg, Int.reduceToNat, reduceIte, reduceCtorEq, Int.reduceBEq, Int.reduceBNe, List.flatMap_nil, List.flatMap_cons, List.append_nil, List.nil_append, g4]
                exact ⟨[], rfl, trivial, rfl, ⟨by simp [upd, v4], p, k, p', k', p'', k'', by simp [upd, v4]⟩, rfl⟩
              · simp only [List.getElem?_toArray, List.getElem?_cons_zero, List.getElem?_cons_succ, Option.some.injEq] at ho; subst ho
                obtain ⟨v5, g5⟩ := hdep 5 (by kernel_rfl)
                replace g5 := g5 74 rfl
                obtain ⟨v5, p, k, p', k', p'', k'', v4⟩ := v5
                have v5 : val 5 = _ := v5
                rw [v5, v4] at g5
                simp only [push_cast, Nat.reduceAdd, Nat.reduceSub, Nat.reduceMul, Nat.reduceLT, Nat.reduceLeDiff, Nat.reduceEqDiff, Nat.reduceMod, Nat.reduceDiv, Int.reduceAdd, Int.reduceSub, Int.reduceMul, Int.reduceLT, Int.reduceLE, Int.reduceEq, Int.reduceNeg, Int.reduceToNat, reduceIte, reduceCtorEq, Int.reduceBEq, Int.reduceBNe, List.flatMap_nil, List.flatMap_cons, List.append_nil, List.nil_append, g5]
                exact ⟨[], rfl, trivial, rfl, ⟨by simp [upd, v5, v4], p, k, p', k', p'', k'', by simp [upd]⟩, rfl⟩
              · simp only [List.getElem?_toArray, List.getElem?_cons_zero, List.getElem?_cons_succ, Option.some.injEq] at ho; subst ho
                obtain ⟨v5, g5⟩ := hdep 5 (by kernel_rfl)
                replace g5 := g5 74 rfl
                obtain ⟨v5, p, k, p', k', p'', k'', v4⟩ := v5
                have v5 : val 5 = _ := v5
                rw [v5, v4] at g5
                simp only [push_cast, Nat.reduceAdd, Nat.reduceSub, Nat.reduceMul, Nat.reduceLT, Nat.reduceLeDiff, Nat.reduceEqDiff, Nat.reduceMod, Nat.reduceDiv, Int.reduceAdd, Int.reduceSub, Int.reduceMul, Int.reduceLT, Int.reduceLE, Int.reduceEq, Int.reduceNeg, Int.reduceToNat, reduceIte, reduceCtorEq, Int.reduceBEq, Int.reduceBNe, List.flatMap_nil, List.flatMap_cons, List.append_nil, List.nil_append, g5]
                exact ⟨[], rfl, trivial, rfl, upd_self _ _ _, rfl⟩
              · simp only [List.getElem?_toArray, List.getElem?_cons_zero, List.getElem?_cons_succ, Option.some.injEq] at ho; subst ho
                simp only [push_cast, Nat.reduceAdd, Nat.reduceSub, Nat.reduceMul, Nat.reduceLT, Nat.reduceLeDiff, Nat.reduceEqDiff, Nat.reduceMod, Nat.reduceDiv, Int.reduceAdd, Int.reduceSub, Int.reduceMul, Int.reduceLT, Int.reduceLE, Int.reduceEq, Int.reduceNeg, Int.reduceToNat, reduceIte, reduceCtorEq, Int.reduceBEq, Int.reduceBNe, List.flatMap_nil, List.flatMap_cons, List.append_nil, List.nil_append]
                intro b hf
                exact ⟨[_], rfl, ⟨trivial, trivial⟩, rfl, ⟨b, upd_self _ _ _⟩, b, upd_self _ _ _, rfl⟩
              · simp only [List.getElem?_toArray, List.getElem?_cons_zero, List.getElem?_cons_succ, Option.some.injEq] at ho; subst ho
                obtain ⟨v6, g6⟩ := hdep 6 (by kernel_rfl)
                replace g6 := g6 80 rfl
                obtain ⟨v8, g8⟩ := hdep 8 (by kernel_rfl)
                replace g8 := g8 20 rfl
                obtain ⟨-, p, k, p', k', p'', k'', v6⟩ := v6
                have v6 : val 6 = _ := v6
                rw [v6] at g6
                obtain ⟨b8, v8, hN⟩ := hus 8 (List.mem_singleton.2 rfl)
                have v8 : val 8 = _ := v8
                rw [v8] at g8
                simp only [push_cast, Nat.reduceAdd, Nat.reduceSub, Nat.reduceMul, Nat.reduceLT, Nat.reduceLeDiff, Nat.reduceEqDiff, Nat.reduceMod, Nat.reduceDiv, Int.reduceAdd, Int.reduceSub, Int.reduceMul, Int.reduceLT, Int.reduceLE, Int.reduceEq, Int.reduceNeg, Int.reduceToNat, reduceIte, reduceCtorEq, Int.reduceBEq, Int.reduceBNe, List.flatMap_nil, List.flatMap_cons, List.append_nil, List.nil_append, g6, g8, hN, List.cons_append]
                exact ⟨[_], rfl, ⟨trivial, trivial⟩, rfl, b8, p, k, p', k', p'', k'', by simp [upd, v8], by simp [upd, v6], rfl⟩
              · simp only [List.getElem?_toArray, List.getElem?_cons_zero, List.getElem?_cons_succ, Option.some.injEq] at ho; subst ho
                obtain ⟨v7, g7⟩ := hdep 7 (by kernel_rfl)
                replace g7 := g7 81 rfl
                rw [show val 7 = _ from v7] at g7
                simp only [push_cast, Nat.reduceAdd, Nat.reduceSub, Nat.reduceMul, Nat.reduceLT, Nat.reduceLeDiff, Nat.reduceEqDiff, Nat.reduceMod, Nat.reduceDiv, Int.reduceAdd, Int.reduceSub, Int.reduceMul, Int.reduceLT, Int.reduceLE, Int.reduceEq, Int.reduceNeg, Int.reduceToNat, reduceIte, reduceCtorEq, Int.reduceBEq, Int.reduceBNe, List.flatMap_nil, List.flatMap_cons, List.append_nil, List.nil_append, g7]
                exact ⟨[], rfl, trivial, rfl, upd_self _ _ _, rfl⟩
            · intro val mem hV hQ hap hwr
              obtain ⟨w4, m4, hq4⟩ := hQ 4 (by decide)
              obtain ⟨b20, p5, q5, p5', q5', p5'', q5'', v8, v6, hN9⟩ := hQ 9 (by decide)
              obtain ⟨v56, -⟩ := hV 6 (by decide)
              obtain ⟨v54, -⟩ := hV 5 (by decide)
              have v10 : val 10 = .int .i64 20 := hV 10 (by decide)
              have v8 : val 8 = _ := v8
              have v6 : val 6 = _ := v6
              have v54 : val 5 = val 4 := v54
              have v56 : val 5 = .tuple #[val 6, .int .i64 20] := v56
              rw [← v54, v56, v6] at hq4
              obtain ⟨wM, hwM, hjD⟩ := hq4
              injection hwM with hwM
              have hwM := congrArg Array.toList hwM
              simp only [List.cons.injEq, and_true] at hwM
              obtain rfl := hwM
              have hMM : List.flatMap mem [4, 9] ++ (⟨b18, 0, .cel 37, [.slice p4 j.state.length q4, .slice p4' j.undo.length q4', .slice p4'' j.marks.length q4'']⟩ :: ⟨b15, 0, .cel 37, [.slice p3 j.state.length q3, .slice p3' j.undo.length q3', .slice p3'' j.marks.length q3'']⟩ :: ⟨b13, 0, .cel 37, [.slice p2 j.state.length q2, .slice p2' j.undo.length q2', .slice p2'' j.marks.length q2'']⟩ :: ⟨b10, 0, .cel 37, [.slice p1 j.state.length q1, .slice p1' j.undo.length q1', .slice p1'' j.marks.length q1'']⟩ :: M5) = mem 4 ++ (⟨b20, 0, .cel 37, [.slice p5 j.state.length q5, .slice p5' j.undo.length q5', .slice p5'' j.marks.length q5'']⟩ :: ⟨b18, 0, .cel 37, [.slice p4 j.state.length q4, .slice p4' j.undo.length q4', .slice p4'' j.marks.length q4'']⟩ :: ⟨b15, 0, .cel 37, [.slice p3 j.state.length q3, .slice p3' j.undo.length q3', .slice p3'' j.marks.length q3'']⟩ :: ⟨b13, 0, .cel 37, [.slice p2 j.state.length q2, .slice p2' j.undo.length q2', .slice p2'' j.marks.length q2'']⟩ :: ⟨b10, 0, .cel 37, [.slice p1 j.state.length q1, .slice p1' j.undo.length q1', .slice p1'' j.marks.length q1'']⟩ :: M5) := by
                simp only [List.flatMap_cons, List.flatMap_nil, List.append_nil, hN9, List.append_assoc, List.cons_append, List.nil_append]
              rw [hMM] at hap ⊢
              have a4 := freshN_apart hap w4
              have q4f := freshN_sym a4
              have hap2 := (List.pairwise_append.1 hap).2.1
              have a12 := freshN_apart (A := [⟨b20, 0, .cel 37, [.slice p5 j.state.length q5, .slice p5' j.undo.length q5', .slice p5'' j.marks.length q5'']⟩]) hap2 ⟨trivial, trivial⟩
              have hbN := a12.1
              simp only [push_cast, Nat.reduceAdd, Nat.reduceSub, Nat.reduceMul, Nat.reduceLT, Nat.reduceLeDiff, Nat.reduceEqDiff, Nat.reduceMod, Nat.reduceDiv, Int.reduceAdd, Int.reduceSub, Int.reduceMul, Int.reduceLT, Int.reduceLE, Int.reduceEq, Int.reduceNeg, Int.reduceToNat, reduceIte, reduceCtorEq, Int.reduceBEq, Int.reduceBNe] at hbN
              have hb20 := hbN
              simp only [push_cast, Nat.reduceAdd, Nat.reduceSub, Nat.reduceMul, Nat.reduceLT, Nat.reduceLeDiff, Nat.reduceEqDiff, Nat.reduceMod, Nat.reduceDiv, Int.reduceAdd, Int.reduceSub, Int.reduceMul, Int.reduceLT, Int.reduceLE, Int.reduceEq, Int.reduceNeg, Int.reduceToNat, reduceIte, reduceCtorEq, Int.reduceBEq, Int.reduceBNe, v8, v6, v10]
              refine WpV.perm (H' := ⟨b20, 0, .cel 37, [.slice p5 j.state.length q5, .slice p5' j.undo.length q5', .slice p5'' j.marks.length q5'']⟩ :: ⟨b18, 0, .cel 37, [.slice p4 j.state.length q4, .slice p4' j.undo.length q4', .slice p4'' j.marks.length q4'']⟩ :: ⟨b15, 0, .cel 37, [.slice p3 j.state.length q3, .slice p3' j.undo.length q3', .slice p3'' j.marks.length q3'']⟩ :: ⟨b13, 0, .cel 37, [.slice p2 j.state.length q2, .slice p2' j.undo.length q2', .slice p2'' j.marks.length q2'']⟩ :: ⟨b10, 0, .cel 37, [.slice p1 j.state.length q1, .slice p1' j.undo.length q1', .slice p1'' j.marks.length q1'']⟩ :: (M5 ++ mem 4)) ?_ ?_ ?_
              · exact List.perm_append_comm
              · simp [marksOf, marks_append, m4]
              refine WpV.slots [(3, .int .i64 a), (9, .bool true), (10, .pointer (some ⟨b10, 0, none⟩)), (13, .pointer (some ⟨b13, 0, none⟩)), (14, .int .i64 1), (15, .pointer (some ⟨b15, 0, none⟩)), (16, .int .i64 1), (18, .pointer (some ⟨b18, 0, none⟩)), (19, .int .i64 20), (20, .pointer (some ⟨b20, 0, none⟩)), (21, .int .i64 20)] (by simp only [push_cast, Nat.reduceAdd, Nat.reduceSub, Nat.reduceMul, Nat.reduceLT, Nat.reduceLeDiff, Nat.reduceEqDiff, Nat.reduceMod, Nat.reduceDiv, Int.reduceAdd, Int.reduceSub, Int.reduceMul, Int.reduceLT, Int.reduceLE, Int.reduceEq, Int.reduceNeg, Int.reduceToNat, reduceIte, reduceCtorEq, Int.reduceBEq, Int.reduceBNe]) ?_
              obtain ⟨M6, hM6⟩ : ∃ M6, M6 = M5 ++ mem 4 := ⟨_, rfl⟩
              have hg6 : Gr M5 M6 := ⟨hg5.marks, mem 4, hM6, w4, m4⟩
              have f40 := freshN_cons (freshN_cons (freshN_cons (freshN_cons (freshN_cons (a4)))))
              have hjD : JoR j (.agg #[.slice p5 j.state.length q5, .slice p5' j.undo.length q5', .slice p5'' j.marks.length q5'']) M6 := by rw [hM6]; exact JoR.rd _ _ _ _ (cellsAt_swap f40) hjD
              have cb20 : fresh b20 M6 := by rw [hM6]; exact fresh_appS hbN.2.2.2.2.2.2.2.2 q4f.1
              have hL20 : freshN [⟨b20, 0, .cel 37, [.slice p5 j.state.length q5, .slice p5' j.undo.length q5', .slice p5'' j.marks.length q5'']⟩, ⟨b18, 0, .cel 37, [.slice p4 j.state.length q4, .slice p4' j.undo.length q4', .slice p4'' j.marks.length q4'']⟩, ⟨b15, 0, .cel 37, [.slice p3 j.state.length q3, .slice p3' j.undo.length q3', .slice p3'' j.marks.length q3'']⟩, ⟨b13, 0, .cel 37, [.slice p2 j.state.length q2, .slice p2' j.undo.length q2', .slice p2'' j.marks.length q2'']⟩, ⟨b10, 0, .cel 37, [.slice p1 j.state.length q1, .slice p1' j.undo.length q1', .slice p1'' j.marks.length q1'']⟩] M6 := ⟨cb20, by rw [hM6]; exact freshN_comb hL18 ⟨q4f.2.1, q4f.2.2.1, q4f.2.2.2.1, q4f.2.2.2.2.1, trivial⟩⟩
              rw [← hM6]
              refine regO gV4_ok ?_
              have hA6 := hjA.ext (hg3.trans (hg4.trans (hg5.trans hg6))).ext
              have hB6 := hjB.ext (hg4.trans (hg5.trans hg6)).ext
              have hC6 := hjC.ext hg6.ext
              have hJ6 := hj4.ext (hg5.trans hg6).ext
              simp only [push_cast, Nat.reduceAdd, Nat.reduceSub, Nat.reduceMul, Nat.reduceLT, Nat.reduceLeDiff, Nat.reduceEqDiff, Nat.reduceMod, Nat.reduceDiv, Int.reduceAdd, Int.reduceSub, Int.reduceMul, Int.reduceLT, Int.reduceLE, Int.reduceEq, Int.reduceNeg, Int.reduceToNat, reduceIte, reduceCtorEq, Int.reduceBEq, Int.reduceBNe, hb13, hb15, hb18, hb20]
              refine useP [_, _, _, _, _] (v := .bool true) (fun MB hr2 he2 => sameT hrj (JoR.rd _ _ _ _ he2.symm hA6) (JoR.rd _ _ _ _ he2.symm hJ6) hr2.marks) hL20 ?_
              simp only [push_cast, Nat.reduceAdd, Nat.reduceSub, Nat.reduceMul, Nat.reduceLT, Nat.reduceLeDiff, Nat.reduceEqDiff, Nat.reduceMod, Nat.reduceDiv, Int.reduceAdd, Int.reduceSub, Int.reduceMul, Int.reduceLT, Int.reduceLE, Int.reduceEq, Int.reduceNeg, Int.reduceToNat, reduceIte, reduceCtorEq, Int.reduceBEq, Int.reduceBNe, hb13, hb15, hb18, hb20]
              refine useP [_, _, _, _, _] (v := .bool true) (fun MB hr2 he2 => sameT hrj (JoR.rd _ _ _ _ he2.symm hB6) (JoR.rd _ _ _ _ he2.symm hJ6) hr2.marks) hL20 ?_
              simp only [push_cast, Nat.reduceAdd, Nat.reduceSub, Nat.reduceMul, Nat.reduceLT, Nat.reduceLeDiff, Nat.reduceEqDiff, Nat.reduceMod, Nat.reduceDiv, Int.reduceAdd, Int.reduceSub, Int.reduceMul, Int.reduceLT, Int.reduceLE, Int.reduceEq, Int.reduceNeg, Int.reduceToNat, reduceIte, reduceCtorEq, Int.reduceBEq, Int.reduceBNe, hb13, hb15, hb18, hb20]
              refine useP [_, _, _, _, _] (v := .bool true) (fun MB hr2 he2 => sameT hrj (JoR.rd _ _ _ _ he2.symm hC6) (JoR.rd _ _ _ _ he2.symm hJ6) hr2.marks) hL20 ?_
              simp only [push_cast, Nat.reduceAdd, Nat.reduceSub, Nat.reduceMul, Nat.reduceLT, Nat.reduceLeDiff, Nat.reduceEqDiff, Nat.reduceMod, Nat.reduceDiv, Int.reduceAdd, Int.reduceSub, Int.reduceMul, Int.reduceLT, Int.reduceLE, Int.reduceEq, Int.reduceNeg, Int.reduceToNat, reduceIte, reduceCtorEq, Int.reduceBEq, Int.reduceBNe, hb13, hb15, hb18, hb20]
              refine useP [_, _, _, _, _] (v := .bool true) (fun MB hr2 he2 => sameT hrj (JoR.rd _ _ _ _ he2.symm hjD) (JoR.rd _ _ _ _ he2.symm hJ6) hr2.marks) hL20 ?_
              simp only [push_cast, Nat.reduceAdd, Nat.reduceSub, Nat.reduceMul, Nat.reduceLT, Nat.reduceLeDiff, Nat.reduceEqDiff, Nat.reduceMod, Nat.reduceDiv, Int.reduceAdd, Int.reduceSub, Int.reduceMul, Int.reduceLT, Int.reduceLE, Int.reduceEq, Int.reduceNeg, Int.reduceToNat, reduceIte, reduceCtorEq, Int.reduceBEq, Int.reduceBNe, hb13, hb15, hb18, hb20]
end Go.Proofs.YtkhpncfgimlleaaGreat
