/- Texts of this claim, merged by program: Ao. -/
import Derived.Test.YtkhpncfgimlleaaGreatZbAl
set_option linter.unusedSimpArgs false
set_option linter.unusedVariables false
namespace Go.Ev
theorem useV {P : Program} {g : FuncId} {args : List Value} {H : Hp} {Q : Value → Prop} {K' : Value → Hp → Prop} (hc : ∀ M0, roM M0 → cellsAt M0 = cellsAt H → CallsV P g args M0 (fun u N => Q u ∧ N = [])) (hk : ∀ u, Q u → K' u H) : CallsV P g args H K' :=
  (hc (roAll H) (roAll_ro H) (cellsAt_roAll H)).use (derE_behind (L := []) (M := H) trivial) (by
    rintro u N ⟨hq, rfl⟩
    exact ⟨trivial, rfl, fun _ => hk u hq⟩)
theorem CallsV.swap {P : Program} {g : FuncId} {args : List Value} {a b : Ent} {H : Hp} {K : Value → Hp → Prop} (hc : CallsV P g args (b :: a :: H) K) (hm : marksOf (b :: a :: H) = marksOf (a :: b :: H)) : CallsV P g args (a :: b :: H) K := by
  refine ⟨hc.1, fun w0 mu w hs => (hc.2 w0 mu w (hs.perm (List.Perm.swap b a H))).mono ?_⟩
  rintro e w' ⟨v, H', h1, h2, h3, h4⟩
  exact ⟨v, H', h1, h2, h3, h4.trans hm⟩
section
variable {L : List (Ac × Value)} {a : Ad} {i : Nat}
theorem place_lt (h : PlaceA L a i) : (L.map (·.1)).filter (fun y => decide (y.at_.num < a.num)) = (L.take i).map (·.1) := by
  conv => lhs; rw [← List.take_append_drop i L]
  rw [List.map_append, List.filter_append, List.filter_eq_self.2, List.filter_eq_nil_iff.2, List.append_nil]
  · intro y hy
    obtain ⟨x, hx, rfl⟩ := List.mem_map.1 hy
    obtain ⟨k, hk⟩ := List.getElem?_of_mem hx
    rw [List.getElem?_drop] at hk
    have := h.hi (i + k) x (by omega) hk
    simp only [decide_eq_true_eq]
    omega
  · intro y hy
    obtain ⟨x, hx, rfl⟩ := List.mem_map.1 hy
    obtain ⟨k, hk⟩ := List.getElem?_of_mem hx
    rw [List.getElem?_take] at hk
    split at hk
    · rename_i hki
      simpa using h.lo k x hki hk
    · cases hk
theorem place_gt {j : Nat} (h : PlaceA L a i) (hij : i ≤ j) (hlo : ∀ (k : Nat) (x : Ac × Value), i ≤ k → k < j → L[k]? = some x → x.1.at_ = a) (hhi : ∀ (k : Nat) (x : Ac × Value), j ≤ k → L[k]? = some x → a.num < x.1.at_.num) :
    (L.map (·.1)).filter (fun y => decide (a.num < y.at_.num)) = (L.drop j).map (·.1) := by
  conv => lhs; rw [← List.take_append_drop j L]
  rw [List.map_append, List.filter_append, List.filter_eq_nil_iff.2, List.filter_eq_self.2, List.nil_append]
  · intro y hy
    obtain ⟨x, hx, rfl⟩ := List.mem_map.1 hy
    obtain ⟨k, hk⟩ := List.getElem?_of_mem hx
    rw [List.getElem?_drop] at hk
    simpa using hhi (j + k) x (by omega) hk
  · intro y hy
    obtain ⟨x, hx, rfl⟩ := List.mem_map.1 hy
    obtain ⟨k, hk⟩ := List.getElem?_of_mem hx
    rw [List.getElem?_take] at hk
    split at hk
    · rename_i hki
      simp only [decide_eq_true_eq]
      rcases Nat.lt_or_ge k i with h1 | h1
      · have := h.lo k x h1 hk; omega
      · rw [hlo k x h1 hki hk]; omega
    · cases hk
theorem put_is (h : PlaceA L a i) (hs : L.Pairwise fun x y => x.1.at_.num < y.1.at_.num) {y : Ac × Value} (hy : L[i]? = some y) (hya : y.1.at_ = a) {x : Ac} (hx : x.at_ = a) : putS (L.map (·.1)) x = (L.take i).map (·.1) ++ ((if emptyA x then [] else [x]) ++ (L.drop (i + 1)).map (·.1)) := by
  unfold putS
  rw [hx, place_lt h, place_gt h (Nat.le_succ i)]
  · intro k z h1 h2 hz
    obtain rfl : k = i := by omega
    rw [hy] at hz; cases hz; exact hya
  · intro k z h1 hz
    obtain ⟨hk1, hk2⟩ := List.getElem?_eq_some_iff.1 hz
    obtain ⟨hi1, hi2⟩ := List.getElem?_eq_some_iff.1 hy
    have := List.pairwise_iff_getElem.1 hs i k hi1 hk1 h1
    rw [hk2, hi2, hya] at this
    exact this
theorem put_not (h : PlaceA L a i) (hs : L.Pairwise fun x y => x.1.at_.num < y.1.at_.num) (hn : ¬ ∃ y, L[i]? = some y ∧ y.1.at_ = a) {x : Ac} (hx : x.at_ = a) : putS (L.map (·.1)) x = (L.take i).map (·.1) ++ ((if emptyA x then [] else [x]) ++ (L.drop i).map (·.1)) := by
  unfold putS
  rw [hx, place_lt h, place_gt h (Nat.le_refl i)]
  · intro k z h1 h2 hz; omega
  · intro k z h1 hz
    have h3 := h.hi k z h1 hz
    rcases Nat.lt_or_ge i k with h4 | h4
    · obtain ⟨hk1, hk2⟩ := List.getElem?_eq_some_iff.1 hz
      have hi1 : i < L.length := by omega
      have h5 := List.pairwise_iff_getElem.1 hs i k hi1 hk1 h4
      have h6 := h.hi i L[i] (Nat.le_refl i) (List.getElem?_eq_getElem hi1)
      rw [hk2] at h5
      omega
    · obtain rfl : k = i := by omega
      rcases Nat.lt_or_ge a.num z.1.at_.num with h5 | h5
      · exact h5
      · exact absurd ⟨z, hz, Ad.num_inj (by omega)⟩ hn
end
def SetO (e : Nat) (r : List Ac × Int) : Value → Hp → Hp → Prop := fun u N1 H => ∃ w, u = .tuple #[w, .int .i64 r.2] ∧ StO e r.1 w N1 H
theorem SetO.rd (e : Nat) (r : List Ac × Int) : RdOwn (SetO e r) := by
  rintro v N1 A B h ⟨w, rfl, h1⟩
  exact ⟨w, rfl, StO.rd _ _ _ _ _ _ h h1⟩
theorem StO.nil (e : Nat) (H : Hp) : StO e [] (.slice none 0 0) [] H := ⟨[], rfl, .inl ⟨rfl, rfl, rfl, rfl⟩, fun x hx => by cases hx⟩
end Go.Ev
namespace Go.Proofs.YtkhpncfgimlleaaGreat
open Go Go.Ev Go.Proofs
set_option maxRecDepth 100000
set_option maxHeartbeats 4000000
theorem insert0_ok {z : Ac × Value} {b2 k2 : Nat} (hz : oneC z.2 = true) :
    CallsV Tryz.prog 81 [.slice none 0 0, .int .i64 0, .slice (some ⟨b2, 0, none⟩) 1 k2] [⟨b2, 0, .vec 44 27 1, acC z⟩]
      (fun v N => OutG 44 27 ([z].flatMap acC) 1 v N) := by
  have hoz : (acC z).all oneC = true := acC_all hz
  refine callsO gA2_ok Tryz.mix Tryz.pl81 Tryz.func81 rfl Tryz.ntmps81 Tryz.results81 rfl (by first | rfl | assumption) (Nat.le_of_ble_eq_true rfl) (by kernel_rfl) ?_
  simp only [push_cast, Nat.reduceAdd, Nat.reduceSub, Nat.reduceMul, Nat.reduceLT, Nat.reduceLeDiff, Nat.reduceEqDiff, Nat.reduceMod, Nat.reduceDiv, Int.reduceAdd, Int.reduceSub, Int.reduceMul, Int.reduceLT, Int.reduceLE, Int.reduceEq, Int.reduceNeg, Int.reduceToNat, reduceIte, reduceCtorEq, Int.reduceBEq, Int.reduceBNe, hoz, beq_self_eq_true]
  refine ⟨by unfold two47; decide, fun b' c' hbb hcc => ?_⟩
  refine ⟨[_], (List.nil_sublist _).cons_cons _, .inr ⟨b', c', rfl, hcc, ?_, ?_⟩⟩
  · rw [List.flatMap_cons, List.flatMap_nil, List.append_nil, acC_len]
  · rw [List.flatMap_cons, List.flatMap_nil, List.append_nil]
theorem sset_ok {M : Hp} {s : List Ac} {v sv : Value} {x : Ac} (hv : StR s v M) (hx : LiR Sl.cells 8 M x.slots sv) (hn : s.length ≤ 1000000000) : CallsW Tryz.prog 63 [v, .agg (x.cells sv).toArray] M (SetO 44 (setS s x)) := by
  intro M0 hr he
  have hm := hr.marks
  replace hv := StR.rd _ _ _ _ he.symm hv
  replace hx := hx.congr he.symm
  have ho := x.all1 sv hx.one
  refine callsO gA2_ok Tryz.mix (fun i => if i = 1 then [(0, 9)] else Tryz.pl63 i) Tryz.func63 rfl Tryz.ntmps63 Tryz.results63 rfl (by first | rfl | assumption) (Nat.le_of_ble_eq_true rfl) (by kernel_rfl) ?_
  simp only [push_cast, Nat.reduceAdd, Nat.reduceSub, Nat.reduceMul, Nat.reduceLT, Nat.reduceLeDiff, Nat.reduceEqDiff, Nat.reduceMod, Nat.reduceDiv, Int.reduceAdd, Int.reduceSub, Int.reduceMul, Int.reduceLT, Int.reduceLE, Int.reduceEq, Int.reduceNeg, Int.reduceToNat, reduceIte, reduceCtorEq, Int.reduceBEq, Int.reduceBNe]
  intro b3 hb3
  have hL3 : freshN [⟨b3, 0, .cel 44, x.cells sv⟩] M0 := ⟨hb3, trivial⟩
  refine regO gA2_ok ?_
  simp only [push_cast, Nat.reduceAdd, Nat.reduceSub, Nat.reduceMul, Nat.reduceLT, Nat.reduceLeDiff, Nat.reduceEqDiff, Nat.reduceMod, Nat.reduceDiv, Int.reduceAdd, Int.reduceSub, Int.reduceMul, Int.reduceLT, Int.reduceLE, Int.reduceEq, Int.reduceNeg, Int.reduceToNat, reduceIte, reduceCtorEq, Int.reduceBEq, Int.reduceBNe]
  refine useP [_] (fun M1 hr1 he1 => sright_ok (StR.rd _ _ _ _ he1.symm hv) hr1.marks (by omega)) hL3 ?_
  cases hrs : rightS s
  case false =>
    have e : setS s x = ([], 1) := by unfold setS; rw [hrs]; rfl
    rw [e]
    simp only [push_cast, Nat.reduceAdd, Nat.reduceSub, Nat.reduceMul, Nat.reduceLT, Nat.reduceLeDiff, Nat.reduceEqDiff, Nat.reduceMod, Nat.reduceDiv, Int.reduceAdd, Int.reduceSub, Int.reduceMul, Int.reduceLT, Int.reduceLE, Int.reduceEq, Int.reduceNeg, Int.reduceToNat, reduceIte, reduceCtorEq, Int.reduceBEq, Int.reduceBNe]
    exact doneN [_] (N1 := []) (M1 := M0) (Gr.refl hm) trivial rfl trivial (SetO.rd _ _) ⟨_, rfl, StO.nil _ _⟩
  simp only [push_cast, Nat.reduceAdd, Nat.reduceSub, Nat.reduceMul, Nat.reduceLT, Nat.reduceLeDiff, Nat.reduceEqDiff, Nat.reduceMod, Nat.reduceDiv, Int.reduceAdd, Int.reduceSub, Int.reduceMul, Int.reduceLT, Int.reduceLE, Int.reduceEq, Int.reduceNeg, Int.reduceToNat, reduceIte, reduceCtorEq, Int.reduceBEq, Int.reduceBNe]
  refine useP [_] (fun M1 hr1 he1 => may_ok (hx.congr he1.symm) hr1.marks) hL3 ?_
  cases hmx : mayA x
  case false =>
    have e : setS s x = ([], 1) := by unfold setS; rw [hrs, hmx]; rfl
    rw [e]
    simp only [push_cast, Nat.reduceAdd, Nat.reduceSub, Nat.reduceMul, Nat.reduceLT, Nat.reduceLeDiff, Nat.reduceEqDiff, Nat.reduceMod, Nat.reduceDiv, Int.reduceAdd, Int.reduceSub, Int.reduceMul, Int.reduceLT, Int.reduceLE, Int.reduceEq, Int.reduceNeg, Int.reduceToNat, reduceIte, reduceCtorEq, Int.reduceBEq, Int.reduceBNe]
    exact doneN [_] (N1 := []) (M1 := M0) (Gr.refl hm) trivial rfl trivial (SetO.rd _ _) ⟨_, rfl, StO.nil _ _⟩
  simp only [push_cast, Nat.reduceAdd, Nat.reduceSub, Nat.reduceMul, Nat.reduceLT, Nat.reduceLeDiff, Nat.reduceEqDiff, Nat.reduceMod, Nat.reduceDiv, Int.reduceAdd, Int.reduceSub, Int.reduceMul, Int.reduceLT, Int.reduceLE, Int.reduceEq, Int.reduceNeg, Int.reduceToNat, reduceIte, reduceCtorEq, Int.reduceBEq, Int.reduceBNe]
  have hri := rightS_iff.1 hrs
  have hxr := mayA_slots hmx
  refine useN [_] (mapped_ok hv hn fun y hy => by have := (mayA_slots (hri.may y hy)).len; omega) (StO.rd _ _) hm hL3 fun w N M1 hg hf hL hw hmN hq => ?_
  obtain ⟨L, rfl, hLo, hLs⟩ := hq
  have hlen : (L.map (·.1)).length = L.length := List.length_map _
  have hl200 : L.length ≤ 200 := by have := hri.len; rw [hlen] at this; exact this
  have hone : ∀ y ∈ L, oneC y.2 = true := fun y hy => (hLs y hy).one
  have hsrt : L.Pairwise fun x y => x.1.at_.num < y.1.at_.num := by have := hri.srt; rwa [List.pairwise_map] at this
  have hset : setS (L.map (·.1)) x = if 200 < (putS (L.map (·.1)) x).length then ([], 2) else (putS (L.map (·.1)) x, 0) := by
    unfold setS; rw [hrs, hmx]; rfl
  have hx1 : LiR Sl.cells 8 M1 x.slots sv := hx.ext hg.ext
  rcases hLo with ⟨h0, h1, rfl, rfl⟩ | ⟨b, c, rfl, hc, hcl, rfl⟩
  · obtain rfl : L = [] := List.length_eq_zero_iff.1 h0
    have hp0 : putS (([] : List (Ac × Value)).map (·.1)) x = if emptyA x then [] else [x] := by unfold putS; simp
    rw [hp0, List.map_nil] at hset
    simp only [push_cast, Nat.reduceAdd, Nat.reduceSub, Nat.reduceMul, Nat.reduceLT, Nat.reduceLeDiff, Nat.reduceEqDiff, Nat.reduceMod, Nat.reduceDiv, Int.reduceAdd, Int.reduceSub, Int.reduceMul, Int.reduceLT, Int.reduceLE, Int.reduceEq, Int.reduceNeg, Int.reduceToNat, reduceIte, reduceCtorEq, Int.reduceBEq, Int.reduceBNe]
    refine useV (Q := fun u => u = .tuple #[.int .i64 0, .bool false]) (fun M2 hr2 he2 => (bsearch_ok (L := []) (a := x.at_) hr2.marks (by decide) (LiR.nil _ _) (fun y hy => by cases hy) List.Pairwise.nil).toK fun u N h => ?_) ?_
    · obtain ⟨i, hi, rfl, rfl⟩ := h
      have : i = 0 := Nat.le_zero.1 hi.le
      subst this
      exact ⟨by simp, rfl⟩
    rintro u rfl
    simp only [push_cast, Nat.reduceAdd, Nat.reduceSub, Nat.reduceMul, Nat.reduceLT, Nat.reduceLeDiff, Nat.reduceEqDiff, Nat.reduceMod, Nat.reduceDiv, Int.reduceAdd, Int.reduceSub, Int.reduceMul, Int.reduceLT, Int.reduceLE, Int.reduceEq, Int.reduceNeg, Int.reduceToNat, reduceIte, reduceCtorEq, Int.reduceBEq, Int.reduceBNe]
    refine useP [_] (fun M1 hr1 he1 => empty_ok (hx1.congr he1.symm) hr1.marks) hL ?_
    cases hem : emptyA x
    · rw [hem] at hset
      rw [hset]
      simp only [push_cast, Nat.reduceAdd, Nat.reduceSub, Nat.reduceMul, Nat.reduceLT, Nat.reduceLeDiff, Nat.reduceEqDiff, Nat.reduceMod, Nat.reduceDiv, Int.reduceAdd, Int.reduceSub, Int.reduceMul, Int.reduceLT, Int.reduceLE, Int.reduceEq, Int.reduceNeg, Int.reduceToNat, reduceIte, reduceCtorEq, Int.reduceBEq, Int.reduceBNe]
      refine useL [_] (sown_ok hx1 (by have := hxr.len; omega)) (AcR.rd _) hg.marks hL fun w2 M2 hg2 hL2 hq2 => ?_
      obtain ⟨sv2, rfl, hsv2⟩ := hq2
      obtain ⟨ps, ks, rfl⟩ := hsv2.slice
      simp only [push_cast, Nat.reduceAdd, Nat.reduceSub, Nat.reduceMul, Nat.reduceLT, Nat.reduceLeDiff, Nat.reduceEqDiff, Nat.reduceMod, Nat.reduceDiv, Int.reduceAdd, Int.reduceSub, Int.reduceMul, Int.reduceLT, Int.reduceLE, Int.reduceEq, Int.reduceNeg, Int.reduceToNat, reduceIte, reduceCtorEq, Int.reduceBEq, Int.reduceBNe]
      intro b4 hb4
      refine CallsV.useMs (Hw := [⟨b4, 0, .vec 44 27 1, x.cells (Value.slice ps x.slots.length ks)⟩]) (Hf := []) (insert0_ok (z := (x, Value.slice ps x.slots.length ks)) rfl) (fun e he => by rw [List.mem_singleton.1 he]; rfl) trivial ?_
      intro v2 N2 ho2
      refine ⟨ho2.wr.1, ho2.wr.2, fun hf2 => ?_⟩
      obtain ⟨p2, k2, rfl⟩ := ho2.slice
      simp only [push_cast, Nat.reduceAdd, Nat.reduceSub, Nat.reduceMul, Nat.reduceLT, Nat.reduceLeDiff, Nat.reduceEqDiff, Nat.reduceMod, Nat.reduceDiv, Int.reduceAdd, Int.reduceSub, Int.reduceMul, Int.reduceLT, Int.reduceLE, Int.reduceEq, Int.reduceNeg, Int.reduceToNat, reduceIte, reduceCtorEq, Int.reduceBEq, Int.reduceBNe]
      have hmm : marksOf (N2 ++ ⟨b3, 0, .cel 44, x.cells sv⟩ :: M2) = [] := by rw [marks_append, ho2.wr.2]; exact hg2.marks
      rw [dropM_eq hmm, ← dropM_eq (H := M2) hg2.marks]
      refine doneS (hg.trans hg2) ho2.wr.1 ho2.wr.2 (freshN_cons hf2) (SetO.rd _ _) ⟨_, rfl, [(x, Value.slice ps x.slots.length ks)], rfl, ho2, fun y hy => ?_⟩ ((List.Sublist.refl N2).append ((List.Sublist.refl _).cons _))
      rw [List.mem_singleton.1 hy]; exact hsv2
    · rw [hem] at hset
      rw [hset]
      simp only [push_cast, Nat.reduceAdd, Nat.reduceSub, Nat.reduceMul, Nat.reduceLT, Nat.reduceLeDiff, Nat.reduceEqDiff, Nat.reduceMod, Nat.reduceDiv, Int.reduceAdd, Int.reduceSub, Int.reduceMul, Int.reduceLT, Int.reduceLE, Int.reduceEq, Int.reduceNeg, Int.reduceToNat, reduceIte, reduceCtorEq, Int.reduceBEq, Int.reduceBNe]
      exact doneN [_] (N1 := []) (M1 := M1) hg trivial rfl trivial (SetO.rd _ _) ⟨_, rfl, StO.nil _ _⟩
  · have hbb := hf.1
    simp only [push_cast, Nat.reduceAdd, Nat.reduceSub, Nat.reduceMul, Nat.reduceLT, Nat.reduceLeDiff, Nat.reduceEqDiff, Nat.reduceMod, Nat.reduceDiv, Int.reduceAdd, Int.reduceSub, Int.reduceMul, Int.reduceLT, Int.reduceLE, Int.reduceEq, Int.reduceNeg, Int.reduceToNat, reduceIte, reduceCtorEq, Int.reduceBEq, Int.reduceBNe] at hbb
    simp only [push_cast, Nat.reduceAdd, Nat.reduceSub, Nat.reduceMul, Nat.reduceLT, Nat.reduceLeDiff, Nat.reduceEqDiff, Nat.reduceMod, Nat.reduceDiv, Int.reduceAdd, Int.reduceSub, Int.reduceMul, Int.reduceLT, Int.reduceLE, Int.reduceEq, Int.reduceNeg, Int.reduceToNat, reduceIte, reduceCtorEq, Int.reduceBEq, Int.reduceBNe, hbb]
    refine useV (Q := fun u => ∃ i, PlaceA L x.at_ i ∧ u = .tuple #[.int .i64 i, .bool (decide (∃ y, L[i]? = some y ∧ y.1.at_ = x.at_))]) (fun M2 hr2 he2 => (bsearch_ok (L := L) hr2.marks (by omega) (LiR.congr he2.symm (OutG.liR (.inr ⟨b, c, rfl, hc, hcl, rfl⟩) rfl rfl _)) hone hsrt).toK fun u N h => ?_) ?_
    · obtain ⟨i, hi, h1, h2⟩ := h
      exact ⟨⟨i, hi, h1⟩, h2⟩
    rintro u ⟨i, hi, rfl⟩
    have hLP : freshN [⟨b, 0, .vec 44 27 c, L.flatMap acC⟩, ⟨b3, 0, .cel 44, x.cells sv⟩] M1 := ⟨hbb.2.2, hL⟩
    by_cases his : ∃ y, L[i]? = some y ∧ y.1.at_ = x.at_
    · have hput := put_is hi hsrt his.choose_spec.1 his.choose_spec.2 (x := x) rfl
      obtain ⟨y, hy, hya⟩ := his
      have hsp : L = L.take i ++ y :: L.drop (i + 1) := by
        obtain ⟨h1, h2⟩ := List.getElem?_eq_some_iff.1 hy
        conv => lhs; rw [← List.take_append_drop i L, List.drop_eq_getElem_cons h1, h2]
      have hil := (List.getElem?_eq_some_iff.1 hy).1
      have hpl : (L.take i).length = i := by rw [List.length_take]; omega
      have hd : decide (∃ y, L[i]? = some y ∧ y.1.at_ = x.at_) = true := decide_eq_true ⟨y, hy, hya⟩
      have hpr : (L.drop (i + 1)).length = L.length - (i + 1) := List.length_drop
      obtain ⟨q, hq⟩ : ∃ q, q = L.length - (i + 1) := ⟨_, rfl⟩
      rw [← hq] at hpr
      have hq1 : i + q + 1 = L.length := by omega
      have hpl2 : ((L.take i).map (·.1)).length = i := by rw [List.length_map, hpl]
      have hpr2 : ((L.drop (i + 1)).map (·.1)).length = q := by rw [List.length_map, hpr]
      rw [hput] at hset
      simp only [push_cast, Nat.reduceAdd, Nat.reduceSub, Nat.reduceMul, Nat.reduceLT, Nat.reduceLeDiff, Nat.reduceEqDiff, Nat.reduceMod, Nat.reduceDiv, Int.reduceAdd, Int.reduceSub, Int.reduceMul, Int.reduceLT, Int.reduceLE, Int.reduceEq, Int.reduceNeg, Int.reduceToNat, reduceIte, reduceCtorEq, Int.reduceBEq, Int.reduceBNe, hd, hbb]
      refine useP [_, _] (fun M1 hr1 he1 => empty_ok (hx1.congr he1.symm) hr1.marks) hLP ?_
      cases hem : emptyA x
      · rw [hem, show (if false = true then ([] : List Ac) else [x]) = [x] from rfl, if_neg (by simp only [List.length_append, hpl2, hpr2, List.length_singleton]; omega)] at hset
        rw [hset]
        simp only [push_cast, Nat.reduceAdd, Nat.reduceSub, Nat.reduceMul, Nat.reduceLT, Nat.reduceLeDiff, Nat.reduceEqDiff, Nat.reduceMod, Nat.reduceDiv, Int.reduceAdd, Int.reduceSub, Int.reduceMul, Int.reduceLT, Int.reduceLE, Int.reduceEq, Int.reduceNeg, Int.reduceToNat, reduceIte, reduceCtorEq, Int.reduceBEq, Int.reduceBNe, hd, hbb]
        refine useL [⟨b, 0, .vec 44 27 c, L.flatMap acC⟩, ⟨b3, 0, .cel 44, x.cells sv⟩] (sown_ok hx1 (by have := hxr.len; omega)) (AcR.rd _) hg.marks hLP fun w2 M2 hg2 hL2 hq2 => ?_
        obtain ⟨sv2, rfl, hsv2⟩ := hq2
        obtain ⟨ps, ks, rfl⟩ := hsv2.slice
        have a1 : i * 27 + 27 ≤ (L.flatMap acC).length := by rw [setSeg_flat]; omega
        have a2 : List.take (i * 27) (L.flatMap acC) = (L.take i).flatMap acC := acC_takes L i
        have a3 : List.drop (i * 27 + 27) (L.flatMap acC) = (L.drop (i + 1)).flatMap acC := by rw [← acC_drops, Nat.succ_mul]
        have i1 : ¬ (200 : Int) < (L.length : Int) := by omega
        have i2 : ¬ 200 < L.length := by omega
        simp only [push_cast, Nat.reduceAdd, Nat.reduceSub, Nat.reduceMul, Nat.reduceLT, Nat.reduceLeDiff, Nat.reduceEqDiff, Nat.reduceMod, Nat.reduceDiv, Int.reduceAdd, Int.reduceSub, Int.reduceMul, Int.reduceLT, Int.reduceLE, Int.reduceEq, Int.reduceNeg, Int.reduceToNat, reduceIte, reduceCtorEq, Int.reduceBEq, Int.reduceBNe, hd, hbb, hil, a1, a2, a3, i1, i2]
        have e1 : (L.take i).flatMap acC ++ (x.cells (Value.slice ps x.slots.length ks) ++ (L.drop (i + 1)).flatMap acC) = (L.take i ++ (x, Value.slice ps x.slots.length ks) :: L.drop (i + 1)).flatMap acC := by
          rw [List.flatMap_append, List.flatMap_cons]; rfl
        have e2 : (L.take i ++ (x, Value.slice ps x.slots.length ks) :: L.drop (i + 1)).length = L.length := by
          rw [List.length_append, List.length_cons, hpl, hpr]; omega
        rw [e1]
        refine doneS (N1 := [⟨b, 0, .vec 44 27 c, (L.take i ++ (x, Value.slice ps x.slots.length ks) :: L.drop (i + 1)).flatMap acC⟩]) (M1 := M2) (hg.trans hg2) ⟨trivial, trivial⟩ rfl ⟨hL2.1, trivial⟩ (SetO.rd _ _) ⟨_, rfl, L.take i ++ (x, Value.slice ps x.slots.length ks) :: L.drop (i + 1), by rw [List.map_append]; rfl, ?_, fun y hy => ?_⟩ (((List.Sublist.refl _).cons _).cons_cons _)
        · rw [e2]
          exact .inr ⟨b, c, rfl, hc, by rw [setSeg_flat, e2], rfl⟩
        · rcases List.mem_append.1 hy with hy | hy
          · exact (hLs y (List.mem_of_mem_take hy)).ext hg2.ext
          · rcases List.mem_cons.1 hy with rfl | hy
            · exact hsv2
            · exact (hLs y (List.mem_of_mem_drop hy)).ext hg2.ext
      · rw [hem, show (if true = true then ([] : List Ac) else [x]) = [] from rfl, List.nil_append, if_neg (by simp only [List.length_append, hpl2, hpr2]; omega)] at hset
        rw [hset]
        simp only [push_cast, Nat.reduceAdd, Nat.reduceSub, Nat.reduceMul, Nat.reduceLT, Nat.reduceLeDiff, Nat.reduceEqDiff, Nat.reduceMod, Nat.reduceDiv, Int.reduceAdd, Int.reduceSub, Int.reduceMul, Int.reduceLT, Int.reduceLE, Int.reduceEq, Int.reduceNeg, Int.reduceToNat, reduceIte, reduceCtorEq, Int.reduceBEq, Int.reduceBNe, hd, hbb, wrap_i64' (show -9223372036854775808 ≤ (i : Int) + 1 ∧ (i : Int) + 1 ≤ 9223372036854775807 by omega)]
        have hdel := delete_ok (P := L.take i) (R := L.drop (i + 1)) (x := y) (b := b) (c := c) (n := L.length) (p := i) (q := q) hpl hpr (by omega) hc (by rw [← hsp]; exact hone) (by omega)
        rw [← hsp] at hdel
        refine CallsV.useMs (Hw := [⟨b, 0, .vec 44 27 c, L.flatMap acC⟩]) (Hf := []) hdel (fun e he => by rw [List.mem_singleton.1 he]; rfl) trivial ?_
        rintro v2 N2 ⟨rfl, rfl⟩
        refine ⟨⟨trivial, trivial⟩, rfl, fun hf2 => ?_⟩
        have i1 : ¬ (200 : Int) < (i : Int) + (q : Int) := by omega
        have i2 : ¬ 200 < i + q := by omega
        simp only [push_cast, Nat.reduceAdd, Nat.reduceSub, Nat.reduceMul, Nat.reduceLT, Nat.reduceLeDiff, Nat.reduceEqDiff, Nat.reduceMod, Nat.reduceDiv, Int.reduceAdd, Int.reduceSub, Int.reduceMul, Int.reduceLT, Int.reduceLE, Int.reduceEq, Int.reduceNeg, Int.reduceToNat, reduceIte, reduceCtorEq, Int.reduceBEq, Int.reduceBNe, i1, i2]
        refine doneS (N1 := [⟨b, 0, .vec 44 27 c, (L.take i ++ L.drop (i + 1)).flatMap acC⟩]) (M1 := M1) hg ⟨trivial, trivial⟩ rfl (freshN_cons hf2) (SetO.rd _ _) ⟨_, rfl, L.take i ++ L.drop (i + 1), List.map_append, ?_, fun y hy => ?_⟩ (((List.Sublist.refl _).cons _).cons_cons _)
        · exact .inr ⟨b, c, by rw [List.length_append, hpl, hpr], by rw [List.length_append, hpl, hpr]; omega, by rw [setSeg_flat], rfl⟩
        · rcases List.mem_append.1 hy with hy | hy
          · exact hLs y (List.mem_of_mem_take hy)
          · exact hLs y (List.mem_of_mem_drop hy)
    · have hput := put_not hi hsrt his (x := x) rfl
      rw [hput] at hset
      have hsp : L = L.take i ++ L.drop i := (List.take_append_drop i L).symm
      have hpl : (L.take i).length = i := by rw [List.length_take]; have := hi.le; omega
      have hpr : (L.drop i).length = L.length - i := List.length_drop
      have hd : decide (∃ y, L[i]? = some y ∧ y.1.at_ = x.at_) = false := decide_eq_false his
      simp only [push_cast, Nat.reduceAdd, Nat.reduceSub, Nat.reduceMul, Nat.reduceLT, Nat.reduceLeDiff, Nat.reduceEqDiff, Nat.reduceMod, Nat.reduceDiv, Int.reduceAdd, Int.reduceSub, Int.reduceMul, Int.reduceLT, Int.reduceLE, Int.reduceEq, Int.reduceNeg, Int.reduceToNat, reduceIte, reduceCtorEq, Int.reduceBEq, Int.reduceBNe, hd, hbb]
      refine useP [_, _] (fun M1 hr1 he1 => empty_ok (hx1.congr he1.symm) hr1.marks) hLP ?_
      obtain ⟨q, hq⟩ : ∃ q, q = L.length - i := ⟨_, rfl⟩
      rw [← hq] at hpr
      have hile := hi.le
      have hq1 : i + q = L.length := by omega
      have hpl2 : ((L.take i).map (·.1)).length = i := by rw [List.length_map, hpl]
      have hpr2 : ((L.drop i).map (·.1)).length = q := by rw [List.length_map, hpr]
      cases hem : emptyA x
      · rw [hem, show (if false = true then ([] : List Ac) else [x]) = [x] from rfl] at hset
        simp only [push_cast, Nat.reduceAdd, Nat.reduceSub, Nat.reduceMul, Nat.reduceLT, Nat.reduceLeDiff, Nat.reduceEqDiff, Nat.reduceMod, Nat.reduceDiv, Int.reduceAdd, Int.reduceSub, Int.reduceMul, Int.reduceLT, Int.reduceLE, Int.reduceEq, Int.reduceNeg, Int.reduceToNat, reduceIte, reduceCtorEq, Int.reduceBEq, Int.reduceBNe, hd, hbb]
        refine useL [⟨b, 0, .vec 44 27 c, L.flatMap acC⟩, ⟨b3, 0, .cel 44, x.cells sv⟩] (sown_ok hx1 (by have := hxr.len; omega)) (AcR.rd _) hg.marks hLP fun w2 M2 hg2 hL2 hq2 => ?_
        obtain ⟨sv2, rfl, hsv2⟩ := hq2
        obtain ⟨ps, ks, rfl⟩ := hsv2.slice
        simp only [push_cast, Nat.reduceAdd, Nat.reduceSub, Nat.reduceMul, Nat.reduceLT, Nat.reduceLeDiff, Nat.reduceEqDiff, Nat.reduceMod, Nat.reduceDiv, Int.reduceAdd, Int.reduceSub, Int.reduceMul, Int.reduceLT, Int.reduceLE, Int.reduceEq, Int.reduceNeg, Int.reduceToNat, reduceIte, reduceCtorEq, Int.reduceBEq, Int.reduceBNe, hd, hbb]
        intro b4 hb4
        have hins := insert_ok (P := L.take i) (R := L.drop i) (z := (x, Value.slice ps x.slots.length ks)) (b := b) (b2 := b4) (c := c) (n := L.length) (p := i) (q := q) (k2 := 1) hpl hpr hq1.symm hc (fun y hy => by
          rcases List.mem_append.1 hy with hy | hy
          · exact hone y (List.mem_of_mem_take hy)
          · rcases List.mem_cons.1 hy with rfl | hy
            · rfl
            · exact hone y (List.mem_of_mem_drop hy)) (by omega) (Ne.symm hb4.1)
        rw [← hsp] at hins
        refine CallsV.swap ?_ rfl
        refine CallsV.useMs (Hw := [⟨b, 0, .vec 44 27 c, L.flatMap acC⟩, ⟨b4, 0, .vec 44 27 1, acC (x, Value.slice ps x.slots.length ks)⟩]) (Hf := []) hins (fun e he => by
          rcases List.mem_cons.1 he with rfl | he
          · rfl
          · rw [List.mem_singleton.1 he]; rfl) trivial ?_
        intro v2 N2 ho2
        refine ⟨ho2.wr.1, ho2.wr.2, fun hf2 => ?_⟩
        obtain ⟨p2, k2, rfl⟩ := ho2.slice
        have hmm : marksOf (N2 ++ ⟨b3, 0, .cel 44, x.cells sv⟩ :: M2) = [] := by rw [marks_append, ho2.wr.2]; exact hg2.marks
        have e2 : (L.take i ++ (x, Value.slice ps x.slots.length ks) :: L.drop i).length = L.length + 1 := by
          rw [List.length_append, List.length_cons, hpl, hpr]; omega
        have hsub : (N2 ++ dropM M2).Sublist (dropM (N2 ++ ⟨b3, 0, .cel 44, x.cells sv⟩ :: M2)) := by
          rw [dropM_eq hmm, dropM_eq hg2.marks]
          exact (List.Sublist.refl N2).append ((List.Sublist.refl _).cons _)
        by_cases h2 : 200 < L.length + 1
        · rw [if_pos (by simp only [List.length_append, hpl2, hpr2, List.length_singleton]; omega)] at hset
          rw [hset]
          have i1 : (200 : Int) < (L.length : Int) + 1 := by omega
          simp only [push_cast, Nat.reduceAdd, Nat.reduceSub, Nat.reduceMul, Nat.reduceLT, Nat.reduceLeDiff, Nat.reduceEqDiff, Nat.reduceMod, Nat.reduceDiv, Int.reduceAdd, Int.reduceSub, Int.reduceMul, Int.reduceLT, Int.reduceLE, Int.reduceEq, Int.reduceNeg, Int.reduceToNat, reduceIte, reduceCtorEq, Int.reduceBEq, Int.reduceBNe, i1, h2]
          exact doneS (N1 := []) (M1 := M2) (hg.trans hg2) trivial rfl trivial (SetO.rd _ _) ⟨_, rfl, StO.nil _ _⟩ ((List.sublist_append_right N2 _).trans hsub)
        · rw [if_neg (by simp only [List.length_append, hpl2, hpr2, List.length_singleton]; omega)] at hset
          rw [hset]
          have i1 : ¬ (200 : Int) < (L.length : Int) + 1 := by omega
          simp only [push_cast, Nat.reduceAdd, Nat.reduceSub, Nat.reduceMul, Nat.reduceLT, Nat.reduceLeDiff, Nat.reduceEqDiff, Nat.reduceMod, Nat.reduceDiv, Int.reduceAdd, Int.reduceSub, Int.reduceMul, Int.reduceLT, Int.reduceLE, Int.reduceEq, Int.reduceNeg, Int.reduceToNat, reduceIte, reduceCtorEq, Int.reduceBEq, Int.reduceBNe, i1, h2]
          refine doneS (N1 := N2) (M1 := M2) (hg.trans hg2) ho2.wr.1 ho2.wr.2 (freshN_cons hf2) (SetO.rd _ _) ⟨_, rfl, L.take i ++ (x, Value.slice ps x.slots.length ks) :: L.drop i, by rw [List.map_append]; rfl, by rw [e2]; exact ho2, fun y hy => ?_⟩ hsub
          rcases List.mem_append.1 hy with hy | hy
          · exact (hLs y (List.mem_of_mem_take hy)).ext hg2.ext
          · rcases List.mem_cons.1 hy with rfl | hy
            · exact hsv2
            · exact (hLs y (List.mem_of_mem_drop hy)).ext hg2.ext
      · rw [hem, show (if true = true then ([] : List Ac) else [x]) = [] from rfl, List.nil_append, if_neg (by simp only [List.length_append, hpl2, hpr2]; omega)] at hset
        rw [← List.map_append, ← hsp] at hset
        rw [hset]
        have i1 : ¬ (200 : Int) < (L.length : Int) := by omega
        have i2 : ¬ 200 < L.length := by omega
        simp only [push_cast, Nat.reduceAdd, Nat.reduceSub, Nat.reduceMul, Nat.reduceLT, Nat.reduceLeDiff, Nat.reduceEqDiff, Nat.reduceMod, Nat.reduceDiv, Int.reduceAdd, Int.reduceSub, Int.reduceMul, Int.reduceLT, Int.reduceLE, Int.reduceEq, Int.reduceNeg, Int.reduceToNat, reduceIte, reduceCtorEq, Int.reduceBEq, Int.reduceBNe, hd, hbb, i1, i2]
        exact doneS (N1 := [⟨b, 0, .vec 44 27 c, L.flatMap acC⟩]) (M1 := M1) hg ⟨trivial, trivial⟩ rfl ⟨hLP.1, trivial⟩ (SetO.rd _ _) ⟨_, rfl, L, rfl, .inr ⟨b, c, rfl, hc, hcl, rfl⟩, hLs⟩ (((List.Sublist.refl _).cons _).cons_cons _)
end Go.Proofs.YtkhpncfgimlleaaGreat
