/- Texts of this claim, merged by program: Pa Ao Ap Aq. -/
import Derived.Test.YtincedmdkdjakaaGreatZvAj
import Derived.Test.YtincedmdkdjakaaGreatZvAh
set_option linter.unusedSimpArgs false
set_option linter.unusedVariables false
namespace Go.Ev
structure RiS (s : List Ac) : Prop where
  may : ∀ x ∈ s, mayA x = true
  ne : ∀ x ∈ s, emptyA x = false
  srt : s.Pairwise fun x y => x.at_.num < y.at_.num
  len : s.length ≤ 200
theorem okAt_spec {l : List Ac} {i : Nat} (hi : i < l.length) : okAt l i = true ↔ mayA l[i] = true ∧ emptyA l[i] = false ∧ (∀ _ : 0 < i, (l[i - 1]'(by omega)).at_.num < l[i].at_.num) := by
  unfold okAt
  rw [List.getElem?_eq_getElem hi]
  dsimp only
  simp only [Bool.and_eq_true, Bool.not_eq_true', Bool.or_eq_true, decide_eq_true_eq]
  rw [List.getElem?_eq_getElem (show i - 1 < l.length by omega)]
  dsimp only
  simp only [decide_eq_true_eq]
  constructor
  · rintro ⟨h1, h2, h3⟩
    exact ⟨h1, h2, fun h0 => h3.resolve_left (by omega)⟩
  · rintro ⟨h1, h2, h3⟩
    refine ⟨h1, h2, ?_⟩
    rcases Nat.eq_zero_or_pos i with h | h
    · exact .inl h
    · exact .inr (h3 h)
theorem rightS_iff {s : List Ac} : rightS s = true ↔ RiS s := by
  unfold rightS
  simp only [Bool.and_eq_true, List.all_eq_true, List.mem_range, decide_eq_true_eq]
  constructor
  · rintro ⟨h, hl⟩
    have key : ∀ (j i : Nat) (hj : j < s.length) (hij : i < j), (s[i]'(by omega)).at_.num < s[j].at_.num := by
      intro j
      induction j with
      | zero => intro i hj hij; omega
      | succ j ih =>
        intro i hj hij
        have h1 := ((okAt_spec hj).1 (h _ hj)).2.2 (Nat.succ_pos j)
        rcases Nat.lt_or_ge i j with h2 | h2
        · exact Nat.lt_trans (ih i (by omega) h2) h1
        · obtain rfl : i = j := by omega
          exact h1
    refine ⟨fun x hx => ?_, fun x hx => ?_, ?_, hl⟩
    · obtain ⟨i, hi, rfl⟩ := List.getElem_of_mem hx
      exact ((okAt_spec hi).1 (h i hi)).1
    · obtain ⟨i, hi, rfl⟩ := List.getElem_of_mem hx
      exact ((okAt_spec hi).1 (h i hi)).2.1
    · rw [List.pairwise_iff_getElem]
      exact fun i j hi hj hij => key j i hj hij
  · intro h
    refine ⟨fun i hi => (okAt_spec hi).2 ⟨h.may _ (List.getElem_mem hi), h.ne _ (List.getElem_mem hi), fun h0 => ?_⟩, h.len⟩
    exact List.pairwise_iff_getElem.1 h.srt (i - 1) i (by omega) hi (by omega)
theorem RiS.nil : RiS [] := ⟨fun x hx => (by cases hx), fun x hx => (by cases hx), List.Pairwise.nil, by simp⟩
noncomputable def putS (s : List Ac) (x : Ac) : List Ac := s.filter (fun y => decide (y.at_.num < x.at_.num)) ++ ((if emptyA x then [] else [x]) ++ s.filter (fun y => decide (x.at_.num < y.at_.num)))
noncomputable def setS (s : List Ac) (x : Ac) : List Ac × Int := if rightS s && mayA x then (if 200 < (putS s x).length then ([], 2) else (putS s x, 0)) else ([], 1)
def Ch.zero : Ch := ⟨0, Ad.zero, W.zero, W.zero, 0, .empty⟩
noncomputable def chA (x : Ac) (c : Ch) : Ac × Ch × Int :=
  if c.kind = 1 then (⟨x.at_, c.val, x.nonce, x.code, x.slots⟩, ⟨c.kind, c.at_, W.zero, x.bal, 0, .empty⟩, 0)
  else if c.kind = 2 then (⟨x.at_, x.bal, c.nonce, x.code, x.slots⟩, ⟨c.kind, c.at_, W.zero, W.zero, x.nonce, .empty⟩, 0)
  else if c.kind = 3 then (⟨x.at_, x.bal, x.nonce, c.code, x.slots⟩, ⟨c.kind, c.at_, W.zero, W.zero, 0, x.code⟩, 0)
  else if c.kind = 4 then (⟨x.at_, x.bal, x.nonce, x.code, (mergeR x.slots [⟨c.key, c.val⟩]).1⟩, ⟨c.kind, c.at_, c.key, getW x.slots c.key, 0, .empty⟩, (mergeR x.slots [⟨c.key, c.val⟩]).2)
  else (x, ⟨c.kind, c.at_, W.zero, W.zero, 0, .empty⟩, 1)
noncomputable def doS (s : List Ac) (c : Ch) : List Ac × Ch × Int :=
  if rightS s = false then (s, Ch.zero, 1)
  else if (chA (findS s c.at_) c).2.2 ≠ 0 then (s, Ch.zero, (chA (findS s c.at_) c).2.2)
  else if (setS s (chA (findS s c.at_) c).1).2 ≠ 0 then (s, Ch.zero, (setS s (chA (findS s c.at_) c).1).2)
  else ((setS s (chA (findS s c.at_) c).1).1, (chA (findS s c.at_) c).2.1, 0)
theorem emptyAt_may (a : Ad) : mayA (emptyAt a) = true := by
  unfold mayA emptyAt
  rw [rightB_iff.2 ⟨List.Pairwise.nil, fun x h => (by cases h), by simp⟩]
  simp
theorem findS_some {s : List Ac} (h : s.Pairwise fun x y => x.at_.num < y.at_.num) {x : Ac} (hx : x ∈ s) : findS s x.at_ = x := by
  induction s with
  | nil => cases hx
  | cons y r ih =>
    obtain ⟨h1, h2⟩ := List.pairwise_cons.1 h
    unfold findS
    rw [List.find?_cons]
    rcases List.mem_cons.1 hx with rfl | hx
    · simp
    · have : ¬ y.at_ = x.at_ := fun e => by have := h1 x hx; rw [e] at this; omega
      rw [decide_eq_false this]
      exact ih h2 hx
theorem findS_at (s : List Ac) (a : Ad) : (findS s a).at_ = a := by
  unfold findS
  cases h : s.find? (fun x => decide (x.at_ = a)) with
  | none => rfl
  | some x => simpa using List.find?_some h
theorem findS_cases (s : List Ac) (a : Ad) : (findS s a = emptyAt a ∧ ∀ x ∈ s, ¬ x.at_ = a) ∨ findS s a ∈ s := by
  unfold findS
  cases h : s.find? (fun x => decide (x.at_ = a)) with
  | none => exact .inl ⟨rfl, fun x hx => by simpa using List.find?_eq_none.1 h x hx⟩
  | some x => exact .inr (List.mem_of_find?_eq_some h)
theorem RiS.findMay {s : List Ac} (h : RiS s) (a : Ad) : mayA (findS s a) = true := by
  rcases findS_cases s a with ⟨h1, -⟩ | h1
  · rw [h1]; exact emptyAt_may a
  · exact h.may _ h1
theorem putS_mem {s : List Ac} {x y : Ac} (h : y ∈ putS s x) : (y = x ∧ emptyA x = false) ∨ (y ∈ s ∧ ¬ y.at_.num = x.at_.num) := by
  unfold putS at h
  simp only [List.mem_append, List.mem_filter, decide_eq_true_eq] at h
  rcases h with ⟨h1, h2⟩ | h | ⟨h1, h2⟩
  · exact .inr ⟨h1, by omega⟩
  · split at h
    · cases h
    · rename_i he; exact .inl ⟨List.mem_singleton.1 h, by simpa using he⟩
  · exact .inr ⟨h1, by omega⟩
theorem putS_srt {s : List Ac} {x : Ac} (h : s.Pairwise fun x y => x.at_.num < y.at_.num) : (putS s x).Pairwise fun x y => x.at_.num < y.at_.num := by
  unfold putS
  rw [List.pairwise_append, List.pairwise_append]
  refine ⟨h.filter _, ⟨?_, h.filter _, ?_⟩, ?_⟩
  · split
    · exact List.Pairwise.nil
    · exact List.pairwise_singleton _ _
  · intro y hy z hz
    have hz' := (List.mem_filter.1 hz).2
    split at hy
    · cases hy
    · rw [List.mem_singleton.1 hy]; simpa using hz'
  · intro y hy z hz
    have hy' := (List.mem_filter.1 hy).2
    simp only [decide_eq_true_eq] at hy'
    rcases List.mem_append.1 hz with hz | hz
    · split at hz
      · cases hz
      · rw [List.mem_singleton.1 hz]; exact hy'
    · have := (List.mem_filter.1 hz).2
      simp only [decide_eq_true_eq] at this
      omega
theorem RiS.put {s : List Ac} (h : RiS s) {x : Ac} (hx : mayA x = true) (hl : (putS s x).length ≤ 200) : RiS (putS s x) := by
  refine ⟨fun y hy => ?_, fun y hy => ?_, putS_srt h.srt, hl⟩
  · rcases putS_mem hy with ⟨rfl, -⟩ | ⟨hy, -⟩
    · exact hx
    · exact h.may y hy
  · rcases putS_mem hy with ⟨rfl, he⟩ | ⟨hy, -⟩
    · exact he
    · exact h.ne y hy
theorem mergeR_val {l : List Sl} (h : Ri l) (k v : W) : mergeR l [⟨k, v⟩] = limR (mergeL l [⟨k, v⟩]) := by
  unfold mergeR
  rw [rightB_iff.2 h, patchB_iff.2 ⟨by simp, srt_one _⟩]; rfl
theorem limR_ok {l : List Sl} (h : (limR l).2 = 0) : limR l = (l, 0) ∧ l.length ≤ 1000 := by
  unfold limR at h ⊢
  split
  · rename_i h1; rw [if_pos h1] at h; cases h
  · exact ⟨rfl, by omega⟩
theorem chA_at (x : Ac) (c : Ch) : (chA x c).1.at_ = x.at_ ∧ (chA x c).2.1.at_ = c.at_ := by
  unfold chA
  repeat' split
  all_goals exact ⟨rfl, rfl⟩
theorem mayA_slots {x : Ac} (h : mayA x = true) : Ri x.slots := by
  unfold mayA at h
  simp only [Bool.and_eq_true] at h
  exact rightB_iff.1 h.2.2.2
structure Did (s : List Ac) (c : Ch) : Prop where
  ri : RiS s
  ch : (chA (findS s c.at_) c).2.2 = 0
  may : mayA (chA (findS s c.at_) c).1 = true
  len : (putS s (chA (findS s c.at_) c).1).length ≤ 200
theorem setS_ok {s : List Ac} {x : Ac} : (setS s x).2 = 0 ↔ rightS s = true ∧ mayA x = true ∧ (putS s x).length ≤ 200 := by
  unfold setS
  cases rightS s <;> cases mayA x <;> simp
  split <;> simp <;> omega
theorem setS_val {s : List Ac} {x : Ac} (h : (setS s x).2 = 0) : setS s x = (putS s x, 0) := by
  obtain ⟨h1, h2, h3⟩ := setS_ok.1 h
  unfold setS
  rw [h1, h2]
  simp only [Bool.and_self, if_true]
  rw [if_neg (by omega)]
theorem doS_iff {s : List Ac} {c : Ch} : (doS s c).2.2 = 0 ↔ Did s c := by
  unfold doS
  constructor
  · intro h
    cases hr : rightS s with
    | false => rw [if_pos hr] at h; cases h
    | true =>
      rw [if_neg (by rw [hr]; simp)] at h
      by_cases h1 : (chA (findS s c.at_) c).2.2 = 0
      · rw [if_neg (by simpa using h1)] at h
        by_cases h2 : (setS s (chA (findS s c.at_) c).1).2 = 0
        · obtain ⟨-, h3, h4⟩ := setS_ok.1 h2
          exact ⟨rightS_iff.1 hr, h1, h3, h4⟩
        · rw [if_pos h2] at h; exact absurd h h2
      · rw [if_pos h1] at h; exact absurd h h1
  · intro h
    have h2 : (setS s (chA (findS s c.at_) c).1).2 = 0 := setS_ok.2 ⟨rightS_iff.2 h.ri, h.may, h.len⟩
    rw [if_neg (by rw [rightS_iff.2 h.ri]; simp), if_neg (by simpa using h.ch), if_neg (by simpa using h2)]
theorem Did.val {s : List Ac} {c : Ch} (h : Did s c) : doS s c = (putS s (chA (findS s c.at_) c).1, (chA (findS s c.at_) c).2.1, 0) := by
  have h2 : (setS s (chA (findS s c.at_) c).1).2 = 0 := setS_ok.2 ⟨rightS_iff.2 h.ri, h.may, h.len⟩
  unfold doS
  rw [if_neg (by rw [rightS_iff.2 h.ri]; simp), if_neg (by simpa using h.ch), if_neg (by simpa using h2), setS_val h2]
theorem Did.right {s : List Ac} {c : Ch} (h : Did s c) : RiS (doS s c).1 := by
  rw [h.val]; exact h.ri.put h.may h.len
end Go.Ev
set_option linter.unusedSimpArgs false
set_option linter.unusedVariables false
namespace Go.Ev
theorem useV {P : Program} {g : FuncId} {args : List Value} {H : Hp} {Q : Value → Prop} {K' : Value → Hp → Prop} (hc : ∀ M0, roM M0 → cellsAt M0 = cellsAt H → CallsV P g args M0 (fun u N => Q u ∧ N = [])) (hk : ∀ u, Q u → K' u H) : CallsV P g args H K' :=
  (hc (roAll H) (roAll_ro H) (cellsAt_roAll H)).use (derE_behind (L := []) (M := H) trivial) (by
    rintro u N ⟨hq, rfl⟩
    exact ⟨trivial, rfl, fun _ => hk u hq⟩)
theorem CallsV.swap {P : Program} {g : FuncId} {args : List Value} {a b : Ent} {H : Hp} {K : Value → Hp → Prop} (hc : CallsV P g args (b :: a :: H) K) (hm : marksOf (b :: a :: H) = marksOf (a :: b :: H)) : CallsV P g args (a :: b :: H) K := by
  refine ⟨hc.1, fun w0 mu w hs => (hc.2 w0 mu w (hs.perm (List.Perm.swap b a H))).mono ?_⟩
  rintro e w' ⟨v, H', h1, h2, h3, h4⟩
  exact ⟨v, H', h1, h2, h3, h4.trans hm⟩
section
variable {L : List (Ac × Value)} {a : Ad} {i : Nat}
theorem place_lt (h : PlaceA L a i) : (L.map (·.1)).filter (fun y => decide (y.at_.num < a.num)) = (L.take i).map (·.1) := by
  conv => lhs; rw [← List.take_append_drop i L]
  rw [List.map_append, List.filter_append, List.filter_eq_self.2, List.filter_eq_nil_iff.2, List.append_nil]
  · intro y hy
    obtain ⟨x, hx, rfl⟩ := List.mem_map.1 hy
    obtain ⟨k, hk⟩ := List.getElem?_of_mem hx
    rw [List.getElem?_drop] at hk
    have := h.hi (i + k) x (by omega) hk
    simp only [decide_eq_true_eq]
    omega
  · intro y hy
    obtain ⟨x, hx, rfl⟩ := List.mem_map.1 hy
    obtain ⟨k, hk⟩ := List.getElem?_of_mem hx
    rw [List.getElem?_take] at hk
    split at hk
    · rename_i hki
      simpa using h.lo k x hki hk
    · cases hk
theorem place_gt {j : Nat} (h : PlaceA L a i) (hij : i ≤ j) (hlo : ∀ (k : Nat) (x : Ac × Value), i ≤ k → k < j → L[k]? = some x → x.1.at_ = a) (hhi : ∀ (k : Nat) (x : Ac × Value), j ≤ k → L[k]? = some x → a.num < x.1.at_.num) :
    (L.map (·.1)).filter (fun y => decide (a.num < y.at_.num)) = (L.drop j).map (·.1) := by
  conv => lhs; rw [← List.take_append_drop j L]
  rw [List.map_append, List.filter_append, List.filter_eq_nil_iff.2, List.filter_eq_self.2, List.nil_append]
  · intro y hy
    obtain ⟨x, hx, rfl⟩ := List.mem_map.1 hy
    obtain ⟨k, hk⟩ := List.getElem?_of_mem hx
    rw [List.getElem?_drop] at hk
    simpa using hhi (j + k) x (by omega) hk
  · intro y hy
    obtain ⟨x, hx, rfl⟩ := List.mem_map.1 hy
    obtain ⟨k, hk⟩ := List.getElem?_of_mem hx
    rw [List.getElem?_take] at hk
    split at hk
    · rename_i hki
      simp only [decide_eq_true_eq]
      rcases Nat.lt_or_ge k i with h1 | h1
      · have := h.lo k x h1 hk; omega
      · rw [hlo k x h1 hki hk]; omega
    · cases hk
theorem put_is (h : PlaceA L a i) (hs : L.Pairwise fun x y => x.1.at_.num < y.1.at_.num) {y : Ac × Value} (hy : L[i]? = some y) (hya : y.1.at_ = a) {x : Ac} (hx : x.at_ = a) : putS (L.map (·.1)) x = (L.take i).map (·.1) ++ ((if emptyA x then [] else [x]) ++ (L.drop (i + 1)).map (·.1)) := by
  unfold putS
  rw [hx, place_lt h, place_gt h (Nat.le_succ i)]
  · intro k z h1 h2 hz
    obtain rfl : k = i := by omega
    rw [hy] at hz; cases hz; exact hya
  · intro k z h1 hz
    obtain ⟨hk1, hk2⟩ := List.getElem?_eq_some_iff.1 hz
    obtain ⟨hi1, hi2⟩ := List.getElem?_eq_some_iff.1 hy
    have := List.pairwise_iff_getElem.1 hs i k hi1 hk1 h1
    rw [hk2, hi2, hya] at this
    exact this
theorem put_not (h : PlaceA L a i) (hs : L.Pairwise fun x y => x.1.at_.num < y.1.at_.num) (hn : ¬ ∃ y, L[i]? = some y ∧ y.1.at_ = a) {x : Ac} (hx : x.at_ = a) : putS (L.map (·.1)) x = (L.take i).map (·.1) ++ ((if emptyA x then [] else [x]) ++ (L.drop i).map (·.1)) := by
  unfold putS
  rw [hx, place_lt h, place_gt h (Nat.le_refl i)]
  · intro k z h1 h2 hz; omega
  · intro k z h1 hz
    have h3 := h.hi k z h1 hz
    rcases Nat.lt_or_ge i k with h4 | h4
    · obtain ⟨hk1, hk2⟩ := List.getElem?_eq_some_iff.1 hz
      have hi1 : i < L.length := by omega
      have h5 := List.pairwise_iff_getElem.1 hs i k hi1 hk1 h4
      have h6 := h.hi i L[i] (Nat.le_refl i) (List.getElem?_eq_getElem hi1)
      rw [hk2] at h5
      omega
    · obtain rfl : k = i := by omega
      rcases Nat.lt_or_ge a.num z.1.at_.num with h5 | h5
      · exact h5
      · exact absurd ⟨z, hz, Ad.num_inj (by omega)⟩ hn
end
def SetO (e : Nat) (r : List Ac × Int) : Value → Hp → Hp → Prop := fun u N1 H => ∃ w, u = .tuple #[w, .int .i64 r.2] ∧ StO e r.1 w N1 H
theorem SetO.rd (e : Nat) (r : List Ac × Int) : RdOwn (SetO e r) := by
  rintro v N1 A B h ⟨w, rfl, h1⟩
  exact ⟨w, rfl, StO.rd _ _ _ _ _ _ h h1⟩
theorem StO.nil (e : Nat) (H : Hp) : StO e [] (.slice none 0 0) [] H := ⟨[], rfl, .inl ⟨rfl, rfl, rfl, rfl⟩, fun x hx => by cases hx⟩
end Go.Ev
namespace Go.Proofs.YtincedmdkdjakaaGreat
open Go Go.Ev Go.Proofs
set_option maxRecDepth 100000
set_option maxHeartbeats 4000000
theorem insert0_ok {z : Ac × Value} {b2 k2 : Nat} (hz : oneC z.2 = true) :
    CallsV Tryz.prog 98 [.slice none 0 0, .int .i64 0, .slice (some ⟨b2, 0, none⟩) 1 k2] [⟨b2, 0, .vec 53 27 1, acC z⟩]
      (fun v N => OutG 53 27 ([z].flatMap acC) 1 v N) := by
  have hoz : (acC z).all oneC = true := acC_all hz
  refine callsO gA2_ok Tryz.mix Tryz.pl98 Tryz.func98 rfl Tryz.ntmps98 Tryz.results98 rfl (by first | rfl | assumption) (Nat.le_of_ble_eq_true rfl) (by kernel_rfl) ?_
  simp only [push_cast, seval, reduceCtorEq, hoz, beq_self_eq_true]
  refine ⟨by unfold two47; decide, fun b' c' hbb hcc => ?_⟩
  refine ⟨[_], (List.nil_sublist _).cons_cons _, .inr ⟨b', c', rfl, hcc, ?_, ?_⟩⟩
  · rw [List.flatMap_cons, List.flatMap_nil, List.append_nil, acC_len]
  · rw [List.flatMap_cons, List.flatMap_nil, List.append_nil]
theorem sset_ok {M : Hp} {s : List Ac} {v sv : Value} {x : Ac} (hv : StR s v M) (hx : LiR Sl.cells 8 M x.slots sv) (hn : s.length ≤ 1000000000) : CallsW Tryz.prog 58 [v, .agg (x.cells sv).toArray] M (SetO 53 (setS s x)) := by
  intro M0 hr he
  have hm := hr.marks
  replace hv := StR.rd _ _ _ _ he.symm hv
  replace hx := hx.congr he.symm
  have ho := x.all1 sv hx.one
  refine callsO gA2_ok Tryz.mix (fun i => if i = 1 then [(0, 9)] else Tryz.pl58 i) Tryz.func58 rfl Tryz.ntmps58 Tryz.results58 rfl (by first | rfl | assumption) (Nat.le_of_ble_eq_true rfl) (by kernel_rfl) ?_
  simp only [push_cast, seval, reduceCtorEq]
  intro b3 hb3
  have hL3 : freshN [⟨b3, 0, .cel 53, x.cells sv⟩] M0 := ⟨hb3, trivial⟩
  refine regO gA2_ok ?_
  simp only [push_cast, seval, reduceCtorEq]
  refine useP [_] (fun M1 hr1 he1 => sright_ok (StR.rd _ _ _ _ he1.symm hv) hr1.marks (by omega)) hL3 ?_
  cases hrs : rightS s
  case false =>
    have e : setS s x = ([], 1) := by unfold setS; rw [hrs]; rfl
    rw [e]
    simp only [push_cast, seval, reduceCtorEq]
    exact doneN [_] (N1 := []) (M1 := M0) (Gr.refl hm) trivial rfl trivial (SetO.rd _ _) ⟨_, rfl, StO.nil _ _⟩
  simp only [push_cast, seval, reduceCtorEq]
  refine useP [_] (fun M1 hr1 he1 => may_ok (hx.congr he1.symm) hr1.marks) hL3 ?_
  cases hmx : mayA x
  case false =>
    have e : setS s x = ([], 1) := by unfold setS; rw [hrs, hmx]; rfl
    rw [e]
    simp only [push_cast, seval, reduceCtorEq]
    exact doneN [_] (N1 := []) (M1 := M0) (Gr.refl hm) trivial rfl trivial (SetO.rd _ _) ⟨_, rfl, StO.nil _ _⟩
  simp only [push_cast, seval, reduceCtorEq]
  have hri := rightS_iff.1 hrs
  have hxr := mayA_slots hmx
  refine useN [_] (mapped_ok hv hn fun y hy => by have := (mayA_slots (hri.may y hy)).len; omega) (StO.rd _ _) hm hL3 fun w N M1 hg hf hL hw hmN hq => ?_
  obtain ⟨L, rfl, hLo, hLs⟩ := hq
  have hlen : (L.map (·.1)).length = L.length := List.length_map _
  have hl200 : L.length ≤ 200 := by have := hri.len; rw [hlen] at this; exact this
  have hone : ∀ y ∈ L, oneC y.2 = true := fun y hy => (hLs y hy).one
  have hsrt : L.Pairwise fun x y => x.1.at_.num < y.1.at_.num := by have := hri.srt; rwa [List.pairwise_map] at this
  have hset : setS (L.map (·.1)) x = if 200 < (putS (L.map (·.1)) x).length then ([], 2) else (putS (L.map (·.1)) x, 0) := by
    unfold setS; rw [hrs, hmx]; rfl
  have hx1 : LiR Sl.cells 8 M1 x.slots sv := hx.ext hg.ext
  rcases hLo with ⟨h0, h1, rfl, rfl⟩ | ⟨b, c, rfl, hc, hcl, rfl⟩
  · obtain rfl : L = [] := List.length_eq_zero_iff.1 h0
    have hp0 : putS (([] : List (Ac × Value)).map (·.1)) x = if emptyA x then [] else [x] := by unfold putS; simp
    rw [hp0, List.map_nil] at hset
    simp only [push_cast, seval, reduceCtorEq]
    refine useV (Q := fun u => u = .tuple #[.int .i64 0, .bool false]) (fun M2 hr2 he2 => (bsearch_ok (L := []) (a := x.at_) hr2.marks (by decide) (LiR.nil _ _) (fun y hy => by cases hy) List.Pairwise.nil).toK fun u N h => ?_) ?_
    · obtain ⟨i, hi, rfl, rfl⟩ := h
      have : i = 0 := Nat.le_zero.1 hi.le
      subst this
      exact ⟨by simp, rfl⟩
    rintro u rfl
    simp only [push_cast, seval, reduceCtorEq]
    refine useP [_] (fun M1 hr1 he1 => empty_ok (hx1.congr he1.symm) hr1.marks) hL ?_
    cases hem : emptyA x
    · rw [hem] at hset
      rw [hset]
      simp only [push_cast, seval, reduceCtorEq]
      refine useL [_] (sown_ok hx1 (by have := hxr.len; omega)) (AcR.rd _) hg.marks hL fun w2 M2 hg2 hL2 hq2 => ?_
      obtain ⟨sv2, rfl, hsv2⟩ := hq2
      obtain ⟨ps, ks, rfl⟩ := hsv2.slice
      simp only [push_cast, seval, reduceCtorEq]
      intro b4 hb4
      refine CallsV.useMs (Hw := [⟨b4, 0, .vec 53 27 1, x.cells (Value.slice ps x.slots.length ks)⟩]) (Hf := []) (insert0_ok (z := (x, Value.slice ps x.slots.length ks)) rfl) (fun e he => by rw [List.mem_singleton.1 he]; rfl) trivial ?_
      intro v2 N2 ho2
      refine ⟨ho2.wr.1, ho2.wr.2, fun hf2 => ?_⟩
      obtain ⟨p2, k2, rfl⟩ := ho2.slice
      simp only [push_cast, seval, reduceCtorEq]
      have hmm : marksOf (N2 ++ ⟨b3, 0, .cel 53, x.cells sv⟩ :: M2) = [] := by rw [marks_append, ho2.wr.2]; exact hg2.marks
      rw [dropM_eq hmm, ← dropM_eq (H := M2) hg2.marks]
      refine doneS (hg.trans hg2) ho2.wr.1 ho2.wr.2 (freshN_cons hf2) (SetO.rd _ _) ⟨_, rfl, [(x, Value.slice ps x.slots.length ks)], rfl, ho2, fun y hy => ?_⟩ ((List.Sublist.refl N2).append ((List.Sublist.refl _).cons _))
      rw [List.mem_singleton.1 hy]; exact hsv2
    · rw [hem] at hset
      rw [hset]
      simp only [push_cast, seval, reduceCtorEq]
      exact doneN [_] (N1 := []) (M1 := M1) hg trivial rfl trivial (SetO.rd _ _) ⟨_, rfl, StO.nil _ _⟩
  · have hbb := hf.1
    simp only [push_cast, seval, reduceCtorEq] at hbb
    simp only [push_cast, seval, reduceCtorEq, hbb]
    refine useV (Q := fun u => ∃ i, PlaceA L x.at_ i ∧ u = .tuple #[.int .i64 i, .bool (decide (∃ y, L[i]? = some y ∧ y.1.at_ = x.at_))]) (fun M2 hr2 he2 => (bsearch_ok (L := L) hr2.marks (by omega) (LiR.congr he2.symm (OutG.liR (.inr ⟨b, c, rfl, hc, hcl, rfl⟩) rfl rfl _)) hone hsrt).toK fun u N h => ?_) ?_
    · obtain ⟨i, hi, h1, h2⟩ := h
      exact ⟨⟨i, hi, h1⟩, h2⟩
    rintro u ⟨i, hi, rfl⟩
    have hLP : freshN [⟨b, 0, .vec 53 27 c, L.flatMap acC⟩, ⟨b3, 0, .cel 53, x.cells sv⟩] M1 := ⟨hbb.2.2, hL⟩
    by_cases his : ∃ y, L[i]? = some y ∧ y.1.at_ = x.at_
    · have hput := put_is hi hsrt his.choose_spec.1 his.choose_spec.2 (x := x) rfl
      obtain ⟨y, hy, hya⟩ := his
      have hsp : L = L.take i ++ y :: L.drop (i + 1) := by
        obtain ⟨h1, h2⟩ := List.getElem?_eq_some_iff.1 hy
        conv => lhs; rw [← List.take_append_drop i L, List.drop_eq_getElem_cons h1, h2]
      have hil := (List.getElem?_eq_some_iff.1 hy).1
      have hpl : (L.take i).length = i := by rw [List.length_take]; omega
      have hd : decide (∃ y, L[i]? = some y ∧ y.1.at_ = x.at_) = true := decide_eq_true ⟨y, hy, hya⟩
      have hpr : (L.drop (i + 1)).length = L.length - (i + 1) := List.length_drop
      obtain ⟨q, hq⟩ : ∃ q, q = L.length - (i + 1) := ⟨_, rfl⟩
      rw [← hq] at hpr
      have hq1 : i + q + 1 = L.length := by omega
      have hpl2 : ((L.take i).map (·.1)).length = i := by rw [List.length_map, hpl]
      have hpr2 : ((L.drop (i + 1)).map (·.1)).length = q := by rw [List.length_map, hpr]
      rw [hput] at hset
      simp only [push_cast, seval, reduceCtorEq, hd, hbb]
      refine useP [_, _] (fun M1 hr1 he1 => empty_ok (hx1.congr he1.symm) hr1.marks) hLP ?_
      cases hem : emptyA x
      · rw [hem, show (if false = true then ([] : List Ac) else [x]) = [x] from rfl, if_neg (by simp only [List.length_append, hpl2, hpr2, List.length_singleton]; omega)] at hset
        rw [hset]
        simp only [push_cast, seval, reduceCtorEq, hd, hbb]
        refine useL [⟨b, 0, .vec 53 27 c, L.flatMap acC⟩, ⟨b3, 0, .cel 53, x.cells sv⟩] (sown_ok hx1 (by have := hxr.len; omega)) (AcR.rd _) hg.marks hLP fun w2 M2 hg2 hL2 hq2 => ?_
        obtain ⟨sv2, rfl, hsv2⟩ := hq2
        obtain ⟨ps, ks, rfl⟩ := hsv2.slice
        have a1 : i * 27 + 27 ≤ (L.flatMap acC).length := by rw [setSeg_flat]; omega
        have a2 : List.take (i * 27) (L.flatMap acC) = (L.take i).flatMap acC := acC_takes L i
        have a3 : List.drop (i * 27 + 27) (L.flatMap acC) = (L.drop (i + 1)).flatMap acC := by rw [← acC_drops, Nat.succ_mul]
        have i1 : ¬ (200 : Int) < (L.length : Int) := by omega
        have i2 : ¬ 200 < L.length := by omega
        simp only [push_cast, seval, reduceCtorEq, hd, hbb, hil, a1, a2, a3, i1, i2]
        have e1 : (L.take i).flatMap acC ++ (x.cells (Value.slice ps x.slots.length ks) ++ (L.drop (i + 1)).flatMap acC) = (L.take i ++ (x, Value.slice ps x.slots.length ks) :: L.drop (i + 1)).flatMap acC := by
          rw [List.flatMap_append, List.flatMap_cons]; rfl
        have e2 : (L.take i ++ (x, Value.slice ps x.slots.length ks) :: L.drop (i + 1)).length = L.length := by
          rw [List.length_append, List.length_cons, hpl, hpr]; omega
        rw [e1]
        refine doneS (N1 := [⟨b, 0, .vec 53 27 c, (L.take i ++ (x, Value.slice ps x.slots.length ks) :: L.drop (i + 1)).flatMap acC⟩]) (M1 := M2) (hg.trans hg2) ⟨trivial, trivial⟩ rfl ⟨hL2.1, trivial⟩ (SetO.rd _ _) ⟨_, rfl, L.take i ++ (x, Value.slice ps x.slots.length ks) :: L.drop (i + 1), by rw [List.map_append]; rfl, ?_, fun y hy => ?_⟩ (((List.Sublist.refl _).cons _).cons_cons _)
        · rw [e2]
          exact .inr ⟨b, c, rfl, hc, by rw [setSeg_flat, e2], rfl⟩
        · rcases List.mem_append.1 hy with hy | hy
          · exact (hLs y (List.mem_of_mem_take hy)).ext hg2.ext
          · rcases List.mem_cons.1 hy with rfl | hy
            · exact hsv2
            · exact (hLs y (List.mem_of_mem_drop hy)).ext hg2.ext
      · rw [hem, show (if true = true then ([] : List Ac) else [x]) = [] from rfl, List.nil_append, if_neg (by simp only [List.length_append, hpl2, hpr2]; omega)] at hset
        rw [hset]
        simp only [push_cast, seval, reduceCtorEq, hd, hbb, wrap_i64' (show -9223372036854775808 ≤ (i : Int) + 1 ∧ (i : Int) + 1 ≤ 9223372036854775807 by omega)]
        have hdel := delete_ok (P := L.take i) (R := L.drop (i + 1)) (x := y) (b := b) (c := c) (n := L.length) (p := i) (q := q) hpl hpr (by omega) hc (by rw [← hsp]; exact hone) (by omega)
        rw [← hsp] at hdel
        refine CallsV.useMs (Hw := [⟨b, 0, .vec 53 27 c, L.flatMap acC⟩]) (Hf := []) hdel (fun e he => by rw [List.mem_singleton.1 he]; rfl) trivial ?_
        rintro v2 N2 ⟨rfl, rfl⟩
        refine ⟨⟨trivial, trivial⟩, rfl, fun hf2 => ?_⟩
        have i1 : ¬ (200 : Int) < (i : Int) + (q : Int) := by omega
        have i2 : ¬ 200 < i + q := by omega
        simp only [push_cast, seval, reduceCtorEq, i1, i2]
        refine doneS (N1 := [⟨b, 0, .vec 53 27 c, (L.take i ++ L.drop (i + 1)).flatMap acC⟩]) (M1 := M1) hg ⟨trivial, trivial⟩ rfl (freshN_cons hf2) (SetO.rd _ _) ⟨_, rfl, L.take i ++ L.drop (i + 1), List.map_append, ?_, fun y hy => ?_⟩ (((List.Sublist.refl _).cons _).cons_cons _)
        · exact .inr ⟨b, c, by rw [List.length_append, hpl, hpr], by rw [List.length_append, hpl, hpr]; omega, by rw [setSeg_flat], rfl⟩
        · rcases List.mem_append.1 hy with hy | hy
          · exact hLs y (List.mem_of_mem_take hy)
          · exact hLs y (List.mem_of_mem_drop hy)
    · have hput := put_not hi hsrt his (x := x) rfl
      rw [hput] at hset
      have hsp : L = L.take i ++ L.drop i := (List.take_append_drop i L).symm
      have hpl : (L.take i).length = i := by rw [List.length_take]; have := hi.le; omega
      have hpr : (L.drop i).length = L.length - i := List.length_drop
      have hd : decide (∃ y, L[i]? = some y ∧ y.1.at_ = x.at_) = false := decide_eq_false his
      simp only [push_cast, seval, reduceCtorEq, hd, hbb]
      refine useP [_, _] (fun M1 hr1 he1 => empty_ok (hx1.congr he1.symm) hr1.marks) hLP ?_
      obtain ⟨q, hq⟩ : ∃ q, q = L.length - i := ⟨_, rfl⟩
      rw [← hq] at hpr
      have hile := hi.le
      have hq1 : i + q = L.length := by omega
      have hpl2 : ((L.take i).map (·.1)).length = i := by rw [List.length_map, hpl]
      have hpr2 : ((L.drop i).map (·.1)).length = q := by rw [List.length_map, hpr]
      cases hem : emptyA x
      · rw [hem, show (if false = true then ([] : List Ac) else [x]) = [x] from rfl] at hset
        simp only [push_cast, seval, reduceCtorEq, hd, hbb]
        refine useL [⟨b, 0, .vec 53 27 c, L.flatMap acC⟩, ⟨b3, 0, .cel 53, x.cells sv⟩] (sown_ok hx1 (by have := hxr.len; omega)) (AcR.rd _) hg.marks hLP fun w2 M2 hg2 hL2 hq2 => ?_
        obtain ⟨sv2, rfl, hsv2⟩ := hq2
        obtain ⟨ps, ks, rfl⟩ := hsv2.slice
        simp only [push_cast, seval, reduceCtorEq, hd, hbb]
        intro b4 hb4
        have hins := insert_ok (P := L.take i) (R := L.drop i) (z := (x, Value.slice ps x.slots.length ks)) (b := b) (b2 := b4) (c := c) (n := L.length) (p := i) (q := q) (k2 := 1) hpl hpr hq1.symm hc (fun y hy => by
          rcases List.mem_append.1 hy with hy | hy
          · exact hone y (List.mem_of_mem_take hy)
          · rcases List.mem_cons.1 hy with rfl | hy
            · rfl
            · exact hone y (List.mem_of_mem_drop hy)) (by omega) (Ne.symm hb4.1)
        rw [← hsp] at hins
        refine CallsV.swap ?_ rfl
        refine CallsV.useMs (Hw := [⟨b, 0, .vec 53 27 c, L.flatMap acC⟩, ⟨b4, 0, .vec 53 27 1, acC (x, Value.slice ps x.slots.length ks)⟩]) (Hf := []) hins (fun e he => by
          rcases List.mem_cons.1 he with rfl | he
          · rfl
          · rw [List.mem_singleton.1 he]; rfl) trivial ?_
        intro v2 N2 ho2
        refine ⟨ho2.wr.1, ho2.wr.2, fun hf2 => ?_⟩
        obtain ⟨p2, k2, rfl⟩ := ho2.slice
        have hmm : marksOf (N2 ++ ⟨b3, 0, .cel 53, x.cells sv⟩ :: M2) = [] := by rw [marks_append, ho2.wr.2]; exact hg2.marks
        have e2 : (L.take i ++ (x, Value.slice ps x.slots.length ks) :: L.drop i).length = L.length + 1 := by
          rw [List.length_append, List.length_cons, hpl, hpr]; omega
        have hsub : (N2 ++ dropM M2).Sublist (dropM (N2 ++ ⟨b3, 0, .cel 53, x.cells sv⟩ :: M2)) := by
          rw [dropM_eq hmm, dropM_eq hg2.marks]
          exact (List.Sublist.refl N2).append ((List.Sublist.refl _).cons _)
        by_cases h2 : 200 < L.length + 1
        · rw [if_pos (by simp only [List.length_append, hpl2, hpr2, List.length_singleton]; omega)] at hset
          rw [hset]
          have i1 : (200 : Int) < (L.length : Int) + 1 := by omega
          simp only [push_cast, seval, reduceCtorEq, i1, h2]
          exact doneS (N1 := []) (M1 := M2) (hg.trans hg2) trivial rfl trivial (SetO.rd _ _) ⟨_, rfl, StO.nil _ _⟩ ((List.sublist_append_right N2 _).trans hsub)
        · rw [if_neg (by simp only [List.length_append, hpl2, hpr2, List.length_singleton]; omega)] at hset
          rw [hset]
          have i1 : ¬ (200 : Int) < (L.length : Int) + 1 := by omega
          simp only [push_cast, seval, reduceCtorEq, i1, h2]
          refine doneS (N1 := N2) (M1 := M2) (hg.trans hg2) ho2.wr.1 ho2.wr.2 (freshN_cons hf2) (SetO.rd _ _) ⟨_, rfl, L.take i ++ (x, Value.slice ps x.slots.length ks) :: L.drop i, by rw [List.map_append]; rfl, by rw [e2]; exact ho2, fun y hy => ?_⟩ hsub
          rcases List.mem_append.1 hy with hy | hy
          · exact (hLs y (List.mem_of_mem_take hy)).ext hg2.ext
          · rcases List.mem_cons.1 hy with rfl | hy
            · exact hsv2
            · exact (hLs y (List.mem_of_mem_drop hy)).ext hg2.ext
      · rw [hem, show (if true = true then ([] : List Ac) else [x]) = [] from rfl, List.nil_append, if_neg (by simp only [List.length_append, hpl2, hpr2]; omega)] at hset
        rw [← List.map_append, ← hsp] at hset
        rw [hset]
        have i1 : ¬ (200 : Int) < (L.length : Int) := by omega
        have i2 : ¬ 200 < L.length := by omega
        simp only [push_cast, seval, reduceCtorEq, hd, hbb, i1, i2]
        exact doneS (N1 := [⟨b, 0, .vec 53 27 c, L.flatMap acC⟩]) (M1 := M1) hg ⟨trivial, trivial⟩ rfl ⟨hLP.1, trivial⟩ (SetO.rd _ _) ⟨_, rfl, L, rfl, .inr ⟨b, c, rfl, hc, hcl, rfl⟩, hLs⟩ (((List.Sublist.refl _).cons _).cons_cons _)
end Go.Proofs.YtincedmdkdjakaaGreat
set_option linter.unusedSimpArgs false
set_option linter.unusedVariables false
namespace Go.Ev
theorem subH_bring {e : Ent} {N A M : Hp} (h1 : ∀ x ∈ N, ¬ e.blk = x.blk) (h2 : ∀ x ∈ A, ¬ e.blk = x.blk) (hA : freshN A M) : subH (N ++ (A ++ e :: M)) (e :: (N ++ M)) := by
  have f1 : findE (N ++ (A ++ e :: M)) e.blk = some e := by rw [findE_A h1, findE_A h2]; simp [findE]
  have f2 : remE (N ++ (A ++ e :: M)) e.blk = N ++ (A ++ M) := by rw [remE_A h1, remE_A h2]; simp [remE]
  refine ⟨f1, ?_⟩
  rw [f2]
  exact subH_ins hA N
theorem freshN_cons2 {N M : Hp} {e : Ent} (h : freshN N (e :: M)) : freshN N [e] := freshN_iff.2 fun x hx y hy => by rw [List.mem_singleton.1 hy]; exact freshN_iff.1 h x hx e (List.mem_cons_self ..)
theorem fresh_blk {N M : Hp} {e : Ent} (h : freshN N (e :: M)) : ∀ x ∈ N, ¬ e.blk = x.blk := fun x hx => freshN_iff.1 h x hx e (List.mem_cons_self ..)
noncomputable def putI (x : Ac) (l : List Ac) : List Ac := l.filter (fun y => decide (y.at_.num < x.at_.num)) ++ ((if emptyA x || (l.filter fun y => decide (x.at_.num < y.at_.num)).isEmpty then [] else [x]) ++ l.filter (fun y => decide (x.at_.num < y.at_.num)))
noncomputable def putD (x : Ac) (l : List Ac) : Bool := emptyA x || !(l.filter fun y => decide (x.at_.num < y.at_.num)).isEmpty
theorem putI_same {x y : Ac} {l : List Ac} (h : y.at_ = x.at_) : putI x (l ++ [y]) = putI x l ∧ putD x (l ++ [y]) = putD x l := by
  have e1 : [y].filter (fun y => decide (y.at_.num < x.at_.num)) = [] := by rw [List.filter_cons_of_neg (by simp [h]), List.filter_nil]
  have e2 : [y].filter (fun y => decide (x.at_.num < y.at_.num)) = [] := by rw [List.filter_cons_of_neg (by simp [h]), List.filter_nil]
  unfold putI putD
  rw [List.filter_append, List.filter_append, e1, e2, List.append_nil, List.append_nil]
  exact ⟨rfl, rfl⟩
theorem putI_lt {x y : Ac} {l : List Ac} (h : y.at_.num < x.at_.num) (hs : (l ++ [y]).Pairwise fun x y => x.at_.num < y.at_.num) : putI x (l ++ [y]) = putI x l ++ [y] ∧ putD x (l ++ [y]) = putD x l := by
  have e1 : [y].filter (fun y => decide (y.at_.num < x.at_.num)) = [y] := by rw [List.filter_cons_of_pos (by simpa using h), List.filter_nil]
  have e2 : [y].filter (fun y => decide (x.at_.num < y.at_.num)) = [] := by rw [List.filter_cons_of_neg (by simp; omega), List.filter_nil]
  have e3 : l.filter (fun y => decide (x.at_.num < y.at_.num)) = [] := List.filter_eq_nil_iff.2 fun z hz => by
    have := (List.pairwise_append.1 hs).2.2 z hz y (List.mem_singleton.2 rfl)
    simp only [decide_eq_true_eq]; omega
  unfold putI putD
  rw [List.filter_append, List.filter_append, e1, e2, e3]
  simp
theorem putI_gt {x y : Ac} {l : List Ac} (h : x.at_.num < y.at_.num) : putI x (l ++ [y]) = (putI x l ++ (if putD x l then [] else [x])) ++ [y] ∧ putD x (l ++ [y]) = true := by
  have e1 : [y].filter (fun y => decide (y.at_.num < x.at_.num)) = [] := by rw [List.filter_cons_of_neg (by simp; omega), List.filter_nil]
  have e2 : [y].filter (fun y => decide (x.at_.num < y.at_.num)) = [y] := by rw [List.filter_cons_of_pos (by simpa using h), List.filter_nil]
  unfold putI putD
  rw [List.filter_append, List.filter_append, e1, e2]
  generalize l.filter (fun y => decide (x.at_.num < y.at_.num)) = g
  generalize l.filter (fun y => decide (y.at_.num < x.at_.num)) = f
  cases emptyA x <;> cases g <;> simp
theorem putI_end (x : Ac) (l : List Ac) : putI x l ++ (if putD x l then [] else [x]) = putS l x := by
  unfold putI putD putS
  generalize l.filter (fun y => decide (x.at_.num < y.at_.num)) = g
  generalize l.filter (fun y => decide (y.at_.num < x.at_.num)) = f
  cases emptyA x <;> cases g <;> simp
end Go.Ev
namespace Go.Proofs.YtincedmdkdjakaaGreat
open Go Go.Ev Go.Proofs
set_option maxRecDepth 100000
set_option maxHeartbeats 4000000
def plRR : Plans := fun i => if i = 4 then [] else Tryz.pl20 i
attribute [push_cast] plRR
theorem refRightS_ok {M : Hp} {s : List Ac} {v : Value} (hv : StR s v M) (hm : marksOf M = []) (hn : s.length ≤ 2199023255551) (hsl : ∀ x ∈ s, x.slots.length ≤ 2199023255551) : CallsV Tryz.prog 20 [v] M (Ret0 (.bool (rightS s))) := by
  obtain ⟨L, rfl, hL, hS⟩ := hv
  have hlen : (L.map (·.1)).length = L.length := List.length_map _
  rw [hlen] at hn
  obtain ⟨p, c, rfl, hl⟩ := hL.openA
  refine callsO gA1_ok Tryz.mix plRR Tryz.func20 rfl Tryz.ntmps20 Tryz.results20 rfl (by first | rfl | assumption) (Nat.le_of_ble_eq_true rfl) (by kernel_rfl) ?_
  simp only [push_cast, seval, reduceCtorEq]
  refine loopO gA1_ok (pl := plRR) Tryz.mix (X := Nat)
    (fun i => ([(0, .slice p L.length c), (3, .int .i64 i)], M))
    (fun i => i ≤ L.length ∧ ∀ j, j < i → okAt (L.map (·.1)) j = true) (fun i => L.length - i) 0 ?_ ?_ (by kernel_rfl) ?_
  · exact ⟨Nat.zero_le _, fun j hj => absurd hj (Nat.not_lt_zero _)⟩
  · simp only [push_cast, seval, reduceCtorEq]
    try exact subH_self _
  · rintro i ⟨hi, hok⟩
    dsimp only at hi hok ⊢
    rcases Nat.lt_or_ge i L.length with hlt | hge
    · obtain h0 | ⟨b, f, d, kd, cs, rfl, he, hat⟩ := hl
      · rw [h0] at hlt; exact absurd hlt (Nat.not_lt_zero _)
      obtain ⟨x, hx⟩ : ∃ x, L[i]? = some x := ⟨L[i], List.getElem?_eq_getElem hlt⟩
      obtain ⟨a0, a1, a2⟩ := hat i x hx
      obtain ⟨a3, a4⟩ := a0 0 20 (by decide)
      rw [Nat.add_zero] at a3 a4
      rw [List.drop_zero, show List.take 20 (acC x) = x.1.at_.cells from x.1.at0 x.2] at a4
      have hxm := List.mem_of_getElem? hx
      have i1 : (i : Int) < (L.length : Int) := by omega
      simp only [push_cast, seval, reduceCtorEq, i1, hlt]
      have hs4 : derE M (roAll M) := derE_behind (L := []) (M := M) trivial
      have hsx := hS x hxm
      have cmay := refMay_ok (M := roAll M) (hsx.congr (cellsAt_roAll M).symm) (roAll_ro M).marks (hsl x.1 (List.mem_map_of_mem hxm))
      have cemp := refEmpty_ok (M := roAll M) (hsx.congr (cellsAt_roAll M).symm) (roAll_ro M).marks
      refine drawO gA1_ok Tryz.mix (Tryz.pl20 4) (by kernel_rfl) ?_
      have hxs : (L.map (·.1))[i]? = some x.1 := by rw [List.getElem?_map, hx]; rfl
      have hls : i < (L.map (·.1)).length := by rw [hlen]; exact hlt
      have bad : okAt (L.map (·.1)) i = false → rightS (L.map (·.1)) = false := rightS_bad hls
      have hok0 : okAt (L.map (·.1)) i = (mayA x.1 && (!emptyA x.1 && (decide (i = 0) || match (L.map (·.1))[i - 1]? with
        | some y => decide (y.at_.num < x.1.at_.num)
        | none => true))) := by unfold okAt; rw [hxs]; rfl
      simp only [push_cast, seval, reduceCtorEq, i1, hlt, he, a1, a2]
      refine TakeV.mk hs4 cmay ?_
      cases hmay : mayA x.1
      · have e := bad (by rw [hok0, hmay]; rfl)
        simp only [push_cast, seval, reduceCtorEq, e]
      simp only [push_cast, seval, reduceCtorEq, i1, hlt, he, a1, a2]
      refine TakeV.mk hs4 cemp ?_
      cases hemp : emptyA x.1
      case true =>
        have e := bad (by rw [hok0, hmay, hemp]; rfl)
        simp only [push_cast, seval, reduceCtorEq, e]
      rcases Nat.eq_zero_or_pos i with rfl | hpos
      · have e0 : okAt (L.map (·.1)) 0 = true := by rw [hok0, hmay, hemp]; rfl
        simp only [push_cast, seval, reduceCtorEq, Int.lt_irrefl, Nat.lt_irrefl, wrap_i64' (show -9223372036854775808 ≤ (0 : Int) + 1 ∧ (0 : Int) + 1 ≤ 9223372036854775807 by omega)]
        exact ⟨1, ⟨hlt, fun j hj => by rw [Nat.lt_one_iff.1 hj]; exact e0⟩, by omega, rfl⟩
      · obtain ⟨k, rfl⟩ : ∃ k, i = k + 1 := ⟨i - 1, by omega⟩
        have hk : k < L.length := by omega
        obtain ⟨y, hy⟩ : ∃ y, L[k]? = some y := ⟨L[k], List.getElem?_eq_getElem hk⟩
        obtain ⟨y1, y2⟩ := (hat k y hy).1 0 20 (by decide)
        rw [Nat.add_zero] at y1 y2
        rw [List.drop_zero, show List.take 20 (acC y) = y.1.at_.cells from y.1.at0 y.2] at y2
        have hys : (L.map (·.1))[k]? = some y.1 := by rw [List.getElem?_map, hy]; rfl
        have hokk : okAt (L.map (·.1)) (k + 1) = decide (y.1.at_.num < x.1.at_.num) := by
          rw [hok0, hmay, hemp, Nat.add_sub_cancel, hys]
          simp
        have p1 : (0 : Int) < (k : Int) + 1 := by omega
        have p2 : (k : Int) + 1 - 1 = (k : Int) := by omega
        have p3 : (k : Int) < (L.length : Int) := by omega
        have p4 : (0 : Int) ≤ (k : Int) + 1 := by omega
        have p5 : (k : Int) + 1 < (L.length : Int) := by omega
        have p6 : ((k : Int) + 1).toNat = k + 1 := by omega
        by_cases hord : y.1.at_.num < x.1.at_.num
        · have e0 : okAt (L.map (·.1)) (k + 1) = true := by rw [hokk, decide_eq_true hord]
          have ec : lessA y.1.at_ x.1.at_ = true := by rw [lessA_eq, decide_eq_true hord]
          simp only [push_cast, seval, reduceCtorEq, p1, p2, p3, p4, p5, p6, hk, wrap_i64' (show -9223372036854775808 ≤ (k : Int) ∧ (k : Int) ≤ 9223372036854775807 by omega), he, a3, a4, y1, y2, i1, hlt, ec, wrap_i64' (show -9223372036854775808 ≤ (k : Int) + 1 + 1 ∧ (k : Int) + 1 + 1 ≤ 9223372036854775807 by omega)]
          refine ⟨k + 2, ⟨hlt, fun j hj => ?_⟩, by omega, rfl⟩
          rcases Nat.lt_or_ge j (k + 1) with h | h
          · exact hok j h
          · obtain rfl : j = k + 1 := by omega
            exact e0
        · have e := bad (by rw [hokk, decide_eq_false hord])
          have ec : lessA y.1.at_ x.1.at_ = false := by rw [lessA_eq, decide_eq_false hord]
          simp only [push_cast, seval, reduceCtorEq, p1, p2, p3, p4, p5, p6, hk, wrap_i64' (show -9223372036854775808 ≤ (k : Int) ∧ (k : Int) ≤ 9223372036854775807 by omega), he, a3, a4, y1, y2, i1, hlt, ec, e]
    · obtain rfl : i = L.length := by omega
      have e : rightS (L.map (·.1)) = decide (L.length ≤ 200) := by rw [rightS_end (by rw [hlen]; exact hok), hlen]
      have e2 : decide ((L.length : Int) ≤ 200) = decide (L.length ≤ 200) := by rw [decide_eq_decide]; omega
      simp only [push_cast, seval, reduceCtorEq, Nat.lt_irrefl, Int.lt_irrefl, e, e2]
def plRSet : Plans := fun i => if i = 1 then [(0, 9)] else if i = 9 then [] else if i = 12 then [(0, 9)] else if i = 13 then [(0, 9)] else Tryz.pl49 i
attribute [push_cast] plRSet
theorem refSet_ok {M : Hp} {s : List Ac} {v sv : Value} {x : Ac} (hv : StR s v M) (hx : LiR Sl.cells 8 M x.slots sv) (hn : s.length ≤ 1000000000) (hsl : ∀ y ∈ s, y.slots.length ≤ 2199023255551) (hxl : x.slots.length ≤ 2199023255551) : CallsW Tryz.prog 49 [v, .agg (x.cells sv).toArray] M (SetO 53 (setS s x)) := by
  intro M0 hr he
  have hm := hr.marks
  replace hv := StR.rd _ _ _ _ he.symm hv
  replace hx := hx.congr he.symm
  have ho := x.all1 sv hx.one
  refine callsO gA1_ok Tryz.mix plRSet Tryz.func49 rfl Tryz.ntmps49 Tryz.results49 rfl (by first | rfl | assumption) (Nat.le_of_ble_eq_true rfl) (by kernel_rfl) ?_
  simp only [push_cast, seval, reduceCtorEq]
  intro b3 hb3
  have hL3 : freshN [⟨b3, 0, .cel 53, x.cells sv⟩] M0 := ⟨hb3, trivial⟩
  refine regO gA1_ok ?_
  simp only [push_cast, seval, reduceCtorEq]
  refine useP [_] (fun M1 hr1 he1 => refRightS_ok (StR.rd _ _ _ _ he1.symm hv) hr1.marks (by omega) hsl) hL3 ?_
  cases hrs : rightS s
  case false =>
    have e : setS s x = ([], 1) := by unfold setS; rw [hrs]; rfl
    rw [e]
    simp only [push_cast, seval, reduceCtorEq]
    exact doneN [_] (N1 := []) (M1 := M0) (Gr.refl hm) trivial rfl trivial (SetO.rd _ _) ⟨_, rfl, StO.nil _ _⟩
  simp only [push_cast, seval, reduceCtorEq]
  refine useP [_] (fun M1 hr1 he1 => refMay_ok (hx.congr he1.symm) hr1.marks hxl) hL3 ?_
  cases hmx : mayA x
  case false =>
    have e : setS s x = ([], 1) := by unfold setS; rw [hrs, hmx]; rfl
    rw [e]
    simp only [push_cast, seval, reduceCtorEq]
    exact doneN [_] (N1 := []) (M1 := M0) (Gr.refl hm) trivial rfl trivial (SetO.rd _ _) ⟨_, rfl, StO.nil _ _⟩
  simp only [push_cast, seval, reduceCtorEq]
  have hri := rightS_iff.1 hrs
  refine useP [_] (fun M1 hr1 he1 => refEmpty_ok (hx.congr he1.symm) hr1.marks) hL3 ?_
  simp only [push_cast, seval, reduceCtorEq]
  have hset : setS s x = if 200 < (putS s x).length then ([], 2) else (putS s x, 0) := by
    unfold setS; rw [hrs, hmx]; rfl
  obtain ⟨L, rfl, hl, hsL⟩ := hv
  have hlen : (L.map (·.1)).length = L.length := List.length_map _
  have hl200 : L.length ≤ 200 := by have := hri.len; rw [hlen] at this; exact this
  obtain ⟨p, k, rfl, hla⟩ := hl.openA
  refine loopO gA1_ok (pl := plRSet) Tryz.mix (X := Nat × List (Ac × Value) × Value × Hp × Hp)
    (fun t => ([(0, .slice p L.length k), (3, .pointer (some ⟨b3, 0, none⟩)), (6, t.2.2.1), (7, .bool (putD x ((L.take t.1).map (·.1)))), (8, .int .i64 t.1)], ⟨b3, 0, .cel 53, x.cells sv⟩ :: (t.2.2.2.1 ++ t.2.2.2.2)))
    (fun t => t.1 ≤ L.length ∧ t.2.1.map (·.1) = putI x ((L.take t.1).map (·.1)) ∧ OutC 53 27 (t.2.1.flatMap acC) t.2.1.length t.2.2.1 t.2.2.2.1 ∧ Gr M0 t.2.2.2.2 ∧ freshN t.2.2.2.1 (⟨b3, 0, .cel 53, x.cells sv⟩ :: t.2.2.2.2) ∧ fresh b3 t.2.2.2.2 ∧ t.2.1.length ≤ 2 * t.1 ∧ ∀ y ∈ t.2.1, LiR Sl.cells 8 t.2.2.2.2 y.1.slots y.2)
    (fun t => L.length - t.1) (0, [], .slice none 0 0, [], M0) ?_ ?_ (by kernel_rfl) ?_
  · refine ⟨Nat.zero_le _, ?_, OutC.nil _ _, Gr.refl hm, trivial, hb3, Nat.zero_le _, fun y hy => by cases hy⟩
    simp [putI]
  · have e0 : putD x [] = emptyA x := by simp [putD]
    simp only [push_cast, seval, reduceCtorEq, e0]
  · rintro ⟨i, B, u, N, M1⟩ ⟨hi, hB, hou, hg, hf, hf3, hBl, hsB⟩
    dsimp only at hi hB hou hg hf hf3 hBl hsB ⊢
    rcases Nat.lt_or_ge i L.length with hlt | hge
    · obtain ⟨y, hy⟩ : ∃ y, L[i]? = some y := ⟨L[i], List.getElem?_eq_getElem hlt⟩
      rcases hla with rfl | ⟨b, f', d, kd, cs, rfl, hfe, hat⟩
      · simp at hlt
      obtain ⟨a0, a1, a2⟩ := hat i y hy
      obtain ⟨a3, a4⟩ := a0 0 20 (by decide)
      rw [Nat.add_zero] at a3 a4
      rw [List.drop_zero, show List.take 20 (acC y) = y.1.at_.cells from y.1.at0 y.2] at a4
      have hym := List.mem_of_getElem? hy
      have i1 : (i : Int) < (L.length : Int) := by omega
      have n3 := (fresh_findS hb3 hfe).2
      have hfe1 : findE (N ++ M1) b = some ⟨b, f', kd, cs⟩ := by
        rw [findE_freshN (freshN_cons hf) (hg.find hfe)]; exact hg.find hfe
      have hst : (L.take (i + 1)).map (·.1) = (L.take i).map (·.1) ++ [y.1] := by rw [List.take_add_one, hy, List.map_append]; rfl
      have hsrt : ((L.take i).map (·.1) ++ [y.1]).Pairwise fun x y => x.at_.num < y.at_.num := by
        rw [← hst, List.map_take]; exact hri.srt.sublist (List.take_sublist _ _)
      by_cases hya : y.1.at_ = x.at_
      · obtain ⟨g1, g2⟩ := putI_same (l := (L.take i).map (·.1)) hya
        have hT := hst
        simp only [push_cast, seval, reduceCtorEq, i1, hlt, hfe1, n3, a3, a4, hya, decide_true, wrap_i64' (show -9223372036854775808 ≤ (i : Int) + 1 ∧ (i : Int) + 1 ≤ 9223372036854775807 by omega)]
        refine ⟨(i + 1, B, u, N, M1), ⟨hlt, by rw [hst, g1]; exact hB, hou, hg, hf, hf3, by dsimp only; omega, hsB⟩, by dsimp only; omega, ?_⟩
        rw [hst, g2]
        simp only [push_cast, seval, reduceCtorEq]
      · simp only [push_cast, seval, reduceCtorEq, i1, hlt, hfe1, n3, a3, a4, hya, decide_false]
        refine drawO gA1_ok Tryz.mix (Tryz.pl49 9) (by kernel_rfl) ?_
        have hne : ¬ y.1.at_.num = x.at_.num := fun e => hya (Ad.num_inj e)
        rcases Nat.lt_or_ge y.1.at_.num x.at_.num with hlo | hhi
        · obtain ⟨g1, g2⟩ := putI_lt hlo hsrt
          have hT : putD x ((L.take (i + 1)).map (·.1)) = putD x ((L.take i).map (·.1)) := by rw [hst, g2]
          have hle : lessA x.at_ y.1.at_ = false := by rw [lessA_eq, decide_eq_false (by omega)]
          cases hdn : putD x ((L.take i).map (·.1))
          · simp only [push_cast, seval, reduceCtorEq, i1, hlt, hfe1, n3, a3, a4, hle]
            refine regO gA1_ok ?_
            have hfe2 : findE (N ++ M1) b = some ⟨b, f', kd, cs⟩ := by
              rw [findE_freshN (freshN_cons hf) (hg.find hfe)]; exact hg.find hfe
            simp only [push_cast, seval, reduceCtorEq, i1, hlt, hfe2, n3, a1, a2]
            refine useL (⟨b3, 0, .cel 53, x.cells sv⟩ :: N) (refown_ok ((hsL y hym).ext hg.ext) (by have := hsl y.1 (List.mem_map_of_mem hym); omega)) (AcR.rd _) hg.marks ⟨hf3, freshN_cons hf⟩ fun w9 M9 hg9 hf9 hq9 => ?_
            obtain ⟨sv9, rfl, hsv9⟩ := hq9
            obtain ⟨p9, k9, rfl⟩ := hsv9.slice
            simp only [push_cast, seval, reduceCtorEq]
            intro b9 hb9
            have hb9' := fresh_app_iff.1 hb9.2.2
            have h3N := freshN_sym (freshN_cons2 hf)
            refine push_ac [⟨b3, 0, .cel 53, x.cells sv⟩] hou ⟨hb9'.1, h3N.1, trivial⟩ (by omega) fun u8 N8 ho8 hf8 => ?_
            simp only [push_cast, seval, reduceCtorEq, wrap_i64' (show -9223372036854775808 ≤ (i : Int) + 1 ∧ (i : Int) + 1 ≤ 9223372036854775807 by omega)]
            refine ⟨(i + 1, B ++ [(y.1, Value.slice p9 y.1.slots.length k9)], u8, N8, M9), ⟨hlt, ?_, ho8, hg.trans hg9, freshN_cons hf8, hf9.1, by dsimp only; rw [List.length_append, List.length_singleton]; omega, fun z hz => ?_⟩, by dsimp only; omega, ?_⟩
            · rw [List.map_append, hB, hst, g1]; rfl
            · rcases List.mem_append.1 hz with hz | hz
              · exact (hsB z hz).ext hg9.ext
              · rw [List.mem_singleton.1 hz]; exact hsv9
            · refine ⟨by simp only [push_cast, seval, reduceCtorEq, hT, hdn], subH_bring (A := [_]) (fresh_blk (freshN_cons hf8)) (fun z hz => ?_) ⟨hb9'.2, trivial⟩, ?_⟩
              · rw [List.mem_singleton.1 hz]; exact hb9.2.1
              · simp [marks_append, marksOf]
          · simp only [push_cast, seval, reduceCtorEq, i1, hlt, hfe1, n3, a3, a4, hle]
            refine regO gA1_ok ?_
            have hfe2 : findE (N ++ M1) b = some ⟨b, f', kd, cs⟩ := by
              rw [findE_freshN (freshN_cons hf) (hg.find hfe)]; exact hg.find hfe
            simp only [push_cast, seval, reduceCtorEq, i1, hlt, hfe2, n3, a1, a2]
            refine useL (⟨b3, 0, .cel 53, x.cells sv⟩ :: N) (refown_ok ((hsL y hym).ext hg.ext) (by have := hsl y.1 (List.mem_map_of_mem hym); omega)) (AcR.rd _) hg.marks ⟨hf3, freshN_cons hf⟩ fun w9 M9 hg9 hf9 hq9 => ?_
            obtain ⟨sv9, rfl, hsv9⟩ := hq9
            obtain ⟨p9, k9, rfl⟩ := hsv9.slice
            simp only [push_cast, seval, reduceCtorEq]
            intro b9 hb9
            have hb9' := fresh_app_iff.1 hb9.2.2
            have h3N := freshN_sym (freshN_cons2 hf)
            refine push_ac [⟨b3, 0, .cel 53, x.cells sv⟩] hou ⟨hb9'.1, h3N.1, trivial⟩ (by omega) fun u8 N8 ho8 hf8 => ?_
            simp only [push_cast, seval, reduceCtorEq, wrap_i64' (show -9223372036854775808 ≤ (i : Int) + 1 ∧ (i : Int) + 1 ≤ 9223372036854775807 by omega)]
            refine ⟨(i + 1, B ++ [(y.1, Value.slice p9 y.1.slots.length k9)], u8, N8, M9), ⟨hlt, ?_, ho8, hg.trans hg9, freshN_cons hf8, hf9.1, by dsimp only; rw [List.length_append, List.length_singleton]; omega, fun z hz => ?_⟩, by dsimp only; omega, ?_⟩
            · rw [List.map_append, hB, hst, g1]; rfl
            · rcases List.mem_append.1 hz with hz | hz
              · exact (hsB z hz).ext hg9.ext
              · rw [List.mem_singleton.1 hz]; exact hsv9
            · refine ⟨by simp only [push_cast, seval, reduceCtorEq, hT, hdn], subH_bring (A := [_]) (fresh_blk (freshN_cons hf8)) (fun z hz => ?_) ⟨hb9'.2, trivial⟩, ?_⟩
              · rw [List.mem_singleton.1 hz]; exact hb9.2.1
              · simp [marks_append, marksOf]
        · have hgt : x.at_.num < y.1.at_.num := by omega
          obtain ⟨g1, g2⟩ := putI_gt (l := (L.take i).map (·.1)) hgt
          have hT : putD x ((L.take (i + 1)).map (·.1)) = true := by rw [hst, g2]
          have hle : lessA x.at_ y.1.at_ = true := by rw [lessA_eq, decide_eq_true hgt]
          cases hdn : putD x ((L.take i).map (·.1))
          · simp only [push_cast, seval, reduceCtorEq, i1, hlt, hfe1, n3, a3, a4, hle]
            refine useL (⟨b3, 0, .cel 53, x.cells sv⟩ :: N) (refown_ok (hx.ext hg.ext) (by omega)) (AcR.rd _) hg.marks ⟨hf3, freshN_cons hf⟩ fun w2 M2 hg2 hf2 hq2 => ?_
            obtain ⟨sv2, rfl, hsv2⟩ := hq2
            obtain ⟨p2, k2, rfl⟩ := hsv2.slice
            simp only [push_cast, seval, reduceCtorEq]
            intro b5 hb5
            have hb5' := fresh_app_iff.1 hb5.2.2
            have h3N := freshN_sym (freshN_cons2 hf)
            refine push_ac [⟨b3, 0, .cel 53, x.cells sv⟩] hou ⟨hb5'.1, h3N.1, trivial⟩ (by omega) fun u3 N3 ho3 hf3' => ?_
            simp only [push_cast, seval, reduceCtorEq]
            refine WpV.sub (s := ([(0, .slice (some ⟨b, f' + d, none⟩) L.length k), (3, .pointer (some ⟨b3, 0, none⟩)), (6, u3), (7, .bool true), (8, .int .i64 i)], ⟨b3, 0, .cel 53, x.cells sv⟩ :: (N3 ++ M2))) ⟨by simp only [push_cast, seval, reduceCtorEq], subH_bring (A := [_]) (fresh_blk (freshN_cons hf3')) (fun z hz => ?_) ⟨hb5'.2, trivial⟩, ?_⟩ ?_
            · rw [List.mem_singleton.1 hz]; exact hb5.2.1
            · simp [marks_append, marksOf]
            have hgg := hg.trans hg2
            have hff := freshN_cons hf3'
            have hsBB : ∀ z ∈ B ++ [(x, Value.slice p2 x.slots.length k2)], LiR Sl.cells 8 M2 z.1.slots z.2 := fun z hz => by
              rcases List.mem_append.1 hz with hz | hz
              · exact (hsB z hz).ext hg2.ext
              · rw [List.mem_singleton.1 hz]; exact hsv2
            have hBB : (B ++ [(x, Value.slice p2 x.slots.length k2)]).length ≤ 2 * i + 1 := by rw [List.length_append, List.length_singleton]; omega
            refine regO gA1_ok ?_
            have hfe2 : findE (N3 ++ M2) b = some ⟨b, f', kd, cs⟩ := by
              rw [findE_freshN (freshN_cons hff) (hgg.find hfe)]; exact hgg.find hfe
            simp only [push_cast, seval, reduceCtorEq, i1, hlt, hfe2, n3, a1, a2]
            refine useL (⟨b3, 0, .cel 53, x.cells sv⟩ :: N3) (refown_ok ((hsL y hym).ext hgg.ext) (by have := hsl y.1 (List.mem_map_of_mem hym); omega)) (AcR.rd _) hgg.marks ⟨hf2.1, freshN_cons hff⟩ fun w9 M9 hg9 hf9 hq9 => ?_
            obtain ⟨sv9, rfl, hsv9⟩ := hq9
            obtain ⟨p9, k9, rfl⟩ := hsv9.slice
            simp only [push_cast, seval, reduceCtorEq]
            intro b9 hb9
            have hb9' := fresh_app_iff.1 hb9.2.2
            have h3N := freshN_sym (freshN_cons2 hff)
            refine push_ac [⟨b3, 0, .cel 53, x.cells sv⟩] ho3 ⟨hb9'.1, h3N.1, trivial⟩ (by omega) fun u8 N8 ho8 hf8 => ?_
            simp only [push_cast, seval, reduceCtorEq, wrap_i64' (show -9223372036854775808 ≤ (i : Int) + 1 ∧ (i : Int) + 1 ≤ 9223372036854775807 by omega)]
            refine ⟨(i + 1, (B ++ [(x, Value.slice p2 x.slots.length k2)]) ++ [(y.1, Value.slice p9 y.1.slots.length k9)], u8, N8, M9), ⟨hlt, ?_, ho8, hgg.trans hg9, freshN_cons hf8, hf9.1, by dsimp only; rw [List.length_append, List.length_singleton]; omega, fun z hz => ?_⟩, by dsimp only; omega, ?_⟩
            · rw [List.map_append, List.map_append, hB, hst, g1, hdn]; rfl
            · rcases List.mem_append.1 hz with hz | hz
              · exact (hsBB z hz).ext hg9.ext
              · rw [List.mem_singleton.1 hz]; exact hsv9
            · refine ⟨by simp only [push_cast, seval, reduceCtorEq, hT, hdn], subH_bring (A := [_]) (fresh_blk (freshN_cons hf8)) (fun z hz => ?_) ⟨hb9'.2, trivial⟩, ?_⟩
              · rw [List.mem_singleton.1 hz]; exact hb9.2.1
              · simp [marks_append, marksOf]
          · simp only [push_cast, seval, reduceCtorEq, i1, hlt, hfe1, n3, a3, a4, hle]
            refine regO gA1_ok ?_
            have hfe2 : findE (N ++ M1) b = some ⟨b, f', kd, cs⟩ := by
              rw [findE_freshN (freshN_cons hf) (hg.find hfe)]; exact hg.find hfe
            simp only [push_cast, seval, reduceCtorEq, i1, hlt, hfe2, n3, a1, a2]
            refine useL (⟨b3, 0, .cel 53, x.cells sv⟩ :: N) (refown_ok ((hsL y hym).ext hg.ext) (by have := hsl y.1 (List.mem_map_of_mem hym); omega)) (AcR.rd _) hg.marks ⟨hf3, freshN_cons hf⟩ fun w9 M9 hg9 hf9 hq9 => ?_
            obtain ⟨sv9, rfl, hsv9⟩ := hq9
            obtain ⟨p9, k9, rfl⟩ := hsv9.slice
            simp only [push_cast, seval, reduceCtorEq]
            intro b9 hb9
            have hb9' := fresh_app_iff.1 hb9.2.2
            have h3N := freshN_sym (freshN_cons2 hf)
            refine push_ac [⟨b3, 0, .cel 53, x.cells sv⟩] hou ⟨hb9'.1, h3N.1, trivial⟩ (by omega) fun u8 N8 ho8 hf8 => ?_
            simp only [push_cast, seval, reduceCtorEq, wrap_i64' (show -9223372036854775808 ≤ (i : Int) + 1 ∧ (i : Int) + 1 ≤ 9223372036854775807 by omega)]
            refine ⟨(i + 1, B ++ [(y.1, Value.slice p9 y.1.slots.length k9)], u8, N8, M9), ⟨hlt, ?_, ho8, hg.trans hg9, freshN_cons hf8, hf9.1, by dsimp only; rw [List.length_append, List.length_singleton]; omega, fun z hz => ?_⟩, by dsimp only; omega, ?_⟩
            · rw [List.map_append, hB, hst, g1, hdn, show (if true = true then ([] : List Ac) else [x]) = [] from rfl, List.append_nil]; rfl
            · rcases List.mem_append.1 hz with hz | hz
              · exact (hsB z hz).ext hg9.ext
              · rw [List.mem_singleton.1 hz]; exact hsv9
            · refine ⟨by simp only [push_cast, seval, reduceCtorEq, hT, hdn], subH_bring (A := [_]) (fresh_blk (freshN_cons hf8)) (fun z hz => ?_) ⟨hb9'.2, trivial⟩, ?_⟩
              · rw [List.mem_singleton.1 hz]; exact hb9.2.1
              · simp [marks_append, marksOf]
    · obtain rfl : i = L.length := by omega
      rw [List.take_length] at hB
      simp only [push_cast, seval, reduceCtorEq, Nat.lt_irrefl, Int.lt_irrefl]
      refine regO gA1_ok ?_
      have hend := putI_end x (L.map (·.1))
      have hfe0 := freshN_cons hf
      have h3N := freshN_sym (freshN_cons2 hf)
      cases hdn : putD x (L.map (·.1))
      · rw [hdn, show (if false = true then ([] : List Ac) else [x]) = [x] from rfl] at hend
        rw [List.take_length, hdn]
        simp only [push_cast, seval, reduceCtorEq]
        refine useL (⟨b3, 0, .cel 53, x.cells sv⟩ :: N) (refown_ok (hx.ext hg.ext) (by omega)) (AcR.rd _) hg.marks ⟨hf3, hfe0⟩ fun w2 M2 hg2 hf2 hq2 => ?_
        obtain ⟨sv2, rfl, hsv2⟩ := hq2
        obtain ⟨p2, k2, rfl⟩ := hsv2.slice
        simp only [push_cast, seval, reduceCtorEq]
        intro b5 hb5
        have hb5' := fresh_app_iff.1 hb5.2.2
        refine push_ac [⟨b3, 0, .cel 53, x.cells sv⟩] hou ⟨hb5'.1, h3N.1, trivial⟩ (by omega) fun u3 N3 ho3 hf3' => ?_
        have hff := freshN_cons (freshN_cons hf3')
        have hlB : (B ++ [(x, Value.slice p2 x.slots.length k2)]).length = (putS (L.map (·.1)) x).length := by rw [← hend, ← hB, List.length_append, List.length_append, List.length_map]; rfl
        obtain ⟨pu, ku, rfl⟩ := ho3.slice
        obtain ⟨n, hnB⟩ : ∃ n, n = (B ++ [(x, Value.slice p2 x.slots.length k2)]).length := ⟨_, rfl⟩
        rw [← hnB] at hlB
        rw [← hlB] at hset
        have hmm : marksOf (N3 ++ ⟨b5, 0, .vec 53 27 1, x.cells (Value.slice p2 x.slots.length k2)⟩ :: ⟨b3, 0, .cel 53, x.cells sv⟩ :: M2) = [] := by rw [marks_append, ho3.wr.2]; exact hg2.marks
        have hsub : (N3 ++ dropM M2).Sublist (dropM (N3 ++ ⟨b5, 0, .vec 53 27 1, x.cells (Value.slice p2 x.slots.length k2)⟩ :: ⟨b3, 0, .cel 53, x.cells sv⟩ :: M2)) := by
          rw [dropM_eq hmm, dropM_eq hg2.marks]
          exact (List.Sublist.refl N3).append (((List.Sublist.refl _).cons _).cons _)
        by_cases h2 : 200 < n
        · rw [if_pos h2] at hset
          have i1 : (200 : Int) < (n : Int) := by omega
          rw [hset]
          simp only [push_cast, seval, reduceCtorEq, ← hnB, i1, h2]
          exact doneS (N1 := []) (M1 := M2) (hg.trans hg2) trivial rfl trivial (SetO.rd _ _) ⟨_, rfl, StO.nil _ _⟩ ((List.sublist_append_right N3 _).trans hsub)
        · rw [if_neg h2] at hset
          have i1 : ¬ (200 : Int) < (n : Int) := by omega
          rw [hset]
          simp only [push_cast, seval, reduceCtorEq, ← hnB, i1, h2]
          rw [← hnB] at ho3
          refine doneS (N1 := N3) (M1 := M2) (hg.trans hg2) ho3.wr.1 ho3.wr.2 hff (SetO.rd _ _) ⟨_, rfl, B ++ [(x, Value.slice p2 x.slots.length k2)], by rw [List.map_append, hB, ← hend]; rfl, by rw [← hnB]; exact ho3.g, fun z hz => ?_⟩ hsub
          rcases List.mem_append.1 hz with hz | hz
          · exact (hsB z hz).ext hg2.ext
          · rw [List.mem_singleton.1 hz]; exact hsv2
      · rw [hdn, show (if true = true then ([] : List Ac) else [x]) = [] from rfl, List.append_nil] at hend
        have hlB : B.length = (putS (L.map (·.1)) x).length := by rw [← hend, ← hB, List.length_map]
        obtain ⟨n, hnB⟩ : ∃ n, n = B.length := ⟨_, rfl⟩
        obtain ⟨pu, ku, rfl⟩ := hou.slice
        rw [← hlB, ← hnB] at hset
        rw [List.take_length, hdn]
        have hmm : marksOf (N ++ M1) = [] := by rw [marks_append, hou.wr.2]; exact hg.marks
        have hsub : (N ++ dropM M1).Sublist (⟨b3, 0, .cel 53, x.cells sv⟩ :: dropM (N ++ M1)) := by
          rw [dropM_eq hmm, dropM_eq hg.marks]
          exact (List.Sublist.refl _).cons _
        by_cases h2 : 200 < n
        · rw [if_pos h2] at hset
          have i1 : (200 : Int) < (n : Int) := by omega
          rw [hset]
          simp only [push_cast, seval, reduceCtorEq, ← hnB, i1, h2]
          exact doneS (N1 := []) (M1 := M1) hg trivial rfl trivial (SetO.rd _ _) ⟨_, rfl, StO.nil _ _⟩ ((List.sublist_append_right N _).trans hsub)
        · rw [if_neg h2] at hset
          have i1 : ¬ (200 : Int) < (n : Int) := by omega
          rw [hset]
          simp only [push_cast, seval, reduceCtorEq, ← hnB, i1, h2]
          rw [← hnB] at hou
          exact doneS (N1 := N) (M1 := M1) hg hou.wr.1 hou.wr.2 hfe0 (SetO.rd _ _) ⟨_, rfl, B, by rw [hB, ← hend], by rw [← hnB]; exact hou.g, hsB⟩ hsub
end Go.Proofs.YtincedmdkdjakaaGreat
set_option linter.unusedSimpArgs false
set_option linter.unusedVariables false
namespace Go.Ev
section
variable (x : Ac) (sv : Value)
theorem Ac.setBal (w : W) : x.at_.cells ++ (w.cells ++ List.drop 24 (x.cells sv)) = (Ac.mk x.at_ w x.nonce x.code x.slots).cells sv := by
  have h := x.at_.len
  unfold Ac.cells
  rw [show 24 = x.at_.cells.length + 4 by omega, List.drop_length_add_append]; rfl
theorem Ac.setNonce (n : Int) : List.take 24 (x.cells sv) ++ .int .i64 n :: List.drop 25 (x.cells sv) = (Ac.mk x.at_ x.bal n x.code x.slots).cells sv := by
  have h := x.at_.len
  unfold Ac.cells
  rw [show 24 = x.at_.cells.length + 4 by omega, show 25 = x.at_.cells.length + 5 by omega, List.drop_length_add_append, List.take_length_add_append, List.append_assoc]; rfl
theorem Ac.setCode (s : ByteArray) : List.take 25 (x.cells sv) ++ .string s :: List.drop 26 (x.cells sv) = (Ac.mk x.at_ x.bal x.nonce s x.slots).cells sv := by
  have h := x.at_.len
  unfold Ac.cells
  rw [show 26 = x.at_.cells.length + 6 by omega, show 25 = x.at_.cells.length + 5 by omega, List.drop_length_add_append, List.take_length_add_append, List.append_assoc]; rfl
end
section
variable (c : Ch)
theorem Ch.pre : c.cells = ([.int .i64 c.kind] ++ c.at_.cells) ++ (c.key.cells ++ (c.val.cells ++ [.int .i64 c.nonce, .string c.code])) := by
  unfold Ch.cells
  rw [List.append_assoc]; rfl
theorem Ch.preLen : ([Value.int .i64 c.kind] ++ c.at_.cells).length = 21 := by rw [List.length_append, Ad.len]; rfl
theorem Ch.kind0 : List.take 1 c.cells = [.int .i64 c.kind] := by unfold Ch.cells; rfl
theorem Ch.at1 : List.take 20 (List.drop 1 c.cells) = c.at_.cells := by
  unfold Ch.cells
  rw [List.drop_succ_cons, List.drop_zero, List.take_left' c.at_.len]
theorem Ch.key21 : List.take 4 (List.drop 21 c.cells) = c.key.cells := by
  rw [c.pre, ← c.preLen, List.drop_left]; rfl
theorem Ch.val25 : List.take 4 (List.drop 25 c.cells) = c.val.cells := by
  rw [c.pre, show 25 = ([Value.int .i64 c.kind] ++ c.at_.cells).length + 4 by rw [c.preLen], List.drop_length_add_append]; rfl
theorem Ch.non29 : List.take 1 (List.drop 29 c.cells) = [.int .i64 c.nonce] := by
  rw [c.pre, show 29 = ([Value.int .i64 c.kind] ++ c.at_.cells).length + 8 by rw [c.preLen], List.drop_length_add_append]; rfl
theorem Ch.cod30 : List.take 1 (List.drop 30 c.cells) = [.string c.code] := by
  rw [c.pre, show 30 = ([Value.int .i64 c.kind] ++ c.at_.cells).length + 9 by rw [c.preLen], List.drop_length_add_append]; rfl
theorem Ch.take31 : List.take 31 c.cells = c.cells := List.take_of_length_le (Nat.le_of_eq c.len)
theorem Ch.drop31 : List.drop 31 c.cells = [] := List.drop_of_length_le (Nat.le_of_eq c.len)
theorem Ch.agg : Value.agg c.cells.toArray = c.v := rfl
theorem Ch.v_cells : c.v.cells = c.cells.toArray := rfl
theorem Ch.setKey (w : W) : List.take 21 c.cells ++ (w.cells ++ List.drop 25 c.cells) = (Ch.mk c.kind c.at_ w c.val c.nonce c.code).cells := by
  rw [c.pre, (Ch.mk c.kind c.at_ w c.val c.nonce c.code).pre, show 25 = ([Value.int .i64 c.kind] ++ c.at_.cells).length + 4 by rw [c.preLen], List.drop_length_add_append, show 21 = ([Value.int .i64 c.kind] ++ c.at_.cells).length by rw [c.preLen], List.take_left]; rfl
theorem Ch.setVal (w : W) : List.take 25 c.cells ++ (w.cells ++ List.drop 29 c.cells) = (Ch.mk c.kind c.at_ c.key w c.nonce c.code).cells := by
  rw [c.pre, (Ch.mk c.kind c.at_ c.key w c.nonce c.code).pre, show 25 = ([Value.int .i64 c.kind] ++ c.at_.cells).length + 4 by rw [c.preLen], show 29 = ([Value.int .i64 c.kind] ++ c.at_.cells).length + 8 by rw [c.preLen], List.drop_length_add_append, List.take_length_add_append, List.append_assoc]; rfl
theorem Ch.setNonce (n : Int) : List.take 29 c.cells ++ .int .i64 n :: List.drop 30 c.cells = (Ch.mk c.kind c.at_ c.key c.val n c.code).cells := by
  rw [c.pre, (Ch.mk c.kind c.at_ c.key c.val n c.code).pre, show 29 = ([Value.int .i64 c.kind] ++ c.at_.cells).length + 8 by rw [c.preLen], show 30 = ([Value.int .i64 c.kind] ++ c.at_.cells).length + 9 by rw [c.preLen], List.drop_length_add_append, List.take_length_add_append, List.append_assoc]; rfl
theorem Ch.setCode (s : ByteArray) : List.take 30 c.cells ++ [.string s] = (Ch.mk c.kind c.at_ c.key c.val c.nonce s).cells := by
  rw [c.pre, (Ch.mk c.kind c.at_ c.key c.val c.nonce s).pre, show 30 = ([Value.int .i64 c.kind] ++ c.at_.cells).length + 9 by rw [c.preLen], List.take_length_add_append, List.append_assoc]; rfl
theorem Ch.new (k : Int) (a : Ad) : Value.int .i64 k :: (a.cells ++ [.int .u64 0, .int .u64 0, .int .u64 0, .int .u64 0, .int .u64 0, .int .u64 0, .int .u64 0, .int .u64 0, .int .i64 0, .string .empty]) = (Ch.mk k a W.zero W.zero 0 .empty).cells := rfl
end
attribute [push_cast] Ch.len Ch.kind0 Ch.at1 Ch.key21 Ch.val25 Ch.non29 Ch.cod30 Ch.take31 Ch.drop31 Ch.agg Ch.v_cells Ch.setKey Ch.setVal Ch.setNonce Ch.setCode Ch.new Ch.all1 Ac.setBal Ac.setNonce Ac.setCode
theorem takeL {P : Program} {g : FuncId} {args : List Value} (L : Hp) {M : Hp} {v : Value} {K : Value → Prop} (hc : ∀ M0, roM M0 → cellsAt M0 = cellsAt M → CallsV P g args M0 (Ret0 v)) (hL : freshN L M) (hk : K v) : TakeV P g args (L ++ M) K :=
  TakeV.mk (derE_behind hL) (hc (roAll M) (roAll_ro M) (cellsAt_roAll M)) hk
end Go.Ev
namespace Go.Proofs.YtincedmdkdjakaaGreat
open Go Go.Ev Go.Proofs
set_option maxRecDepth 100000
set_option maxHeartbeats 4000000
end Go.Proofs.YtincedmdkdjakaaGreat
