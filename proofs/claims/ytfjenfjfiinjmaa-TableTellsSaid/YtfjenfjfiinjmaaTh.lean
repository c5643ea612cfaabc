/- Th: lists of slots in the order of their keys, as tables: the plain laws. -/
import Derived.Test.YtfjenfjfiinjmaaTg
set_option linter.unusedSimpArgs false
set_option linter.unusedVariables false
namespace Go.Ev
def Srt (l : List Sl) : Prop := l.Pairwise fun x y => x.key.num < y.key.num
theorem rises_srt : ∀ {l : List Sl}, Rises l → Srt l
  | [], _ => List.Pairwise.nil
  | [x], _ => List.pairwise_singleton _ _
  | x :: y :: r, h => by
    have ih : Srt (y :: r) := rises_srt fun i a b ha hb => h (i + 1) a b (by simpa using ha) (by simpa using hb)
    have h0 := h 0 x y rfl rfl
    refine List.pairwise_cons.2 ⟨fun z hz => ?_, ih⟩
    rcases List.mem_cons.1 hz with rfl | hz
    · exact h0
    · exact Nat.lt_trans h0 ((List.pairwise_cons.1 ih).1 z hz)
theorem srt_rises {l : List Sl} (h : Srt l) : Rises l := fun i x y hx hy => by
  obtain ⟨h1, h2⟩ := List.getElem?_eq_some_iff.1 hx
  obtain ⟨h3, h4⟩ := List.getElem?_eq_some_iff.1 hy
  have := List.pairwise_iff_getElem.1 h i (i + 1) h1 h3 (by omega)
  rw [h2, h4] at this
  exact this
theorem risesB_iff {l : List Sl} : risesB l = true ↔ Srt l := by
  constructor
  · intro h
    by_cases hr : Rises l
    · exact rises_srt hr
    · rw [risesB_false hr] at h; cases h
  · intro h; exact risesB_true (srt_rises h)
def lk (l : List Sl) (k : W) : Option W := (l.find? fun x => decide (x.key = k)).map (·.val)
theorem getW_lk (l : List Sl) (k : W) : getW l k = (lk l k).getD W.zero := rfl
theorem lk_nil (k : W) : lk [] k = none := rfl
theorem lk_cons (x : Sl) (l : List Sl) (k : W) : lk (x :: l) k = if x.key = k then some x.val else lk l k := by
  unfold lk
  rw [List.find?_cons]
  by_cases h : x.key = k
  · simp [h]
  · simp [h]
theorem W.num_eq {x y : W} : x = y ↔ x.num = y.num := ⟨fun h => by rw [h], W.num_inj⟩
theorem lk_none {l : List Sl} {k : W} (h : ∀ x ∈ l, ¬ x.key = k) : lk l k = none := by
  induction l with
  | nil => rfl
  | cons x r ih => rw [lk_cons, if_neg (h x (by simp)), ih fun y hy => h y (by simp [hy])]
theorem lk_lt {l : List Sl} {k : W} (h : ∀ x ∈ l, k.num < x.key.num) : lk l k = none := lk_none fun x hx e => by
  have := h x hx; rw [e] at this; omega
theorem srt_ext : ∀ {l m : List Sl}, Srt l → Srt m → (∀ k, lk l k = lk m k) → l = m
  | [], [], _, _, _ => rfl
  | [], y :: s, _, _, h => by have := h y.key; rw [lk_nil, lk_cons, if_pos rfl] at this; cases this
  | x :: r, [], _, _, h => by have := h x.key; rw [lk_nil, lk_cons, if_pos rfl] at this; cases this
  | x :: r, y :: s, hl, hm, h => by
    obtain ⟨hx, hr⟩ := List.pairwise_cons.1 hl
    obtain ⟨hy, hs⟩ := List.pairwise_cons.1 hm
    have hk : x.key = y.key := by
      refine W.num_inj ?_
      rcases Nat.lt_trichotomy x.key.num y.key.num with h1 | h1 | h1
      · have := h x.key
        rw [lk_cons, if_pos rfl, lk_cons, if_neg (fun e => by rw [e] at h1; omega), lk_lt fun z hz => Nat.lt_trans h1 (hy z hz)] at this
        cases this
      · exact h1
      · have := h y.key
        rw [lk_cons, if_neg (fun e => by rw [e] at h1; omega), lk_cons, if_pos rfl, lk_lt fun z hz => Nat.lt_trans h1 (hx z hz)] at this
        cases this
    have hv : x.val = y.val := by
      have := h x.key
      rw [lk_cons, if_pos rfl, lk_cons, if_pos hk.symm] at this
      exact Option.some.inj this
    have hxy : x = y := by cases x; cases y; simp at hk hv; subst hk hv; rfl
    subst hxy
    congr 1
    refine srt_ext hr hs fun k => ?_
    by_cases hkk : x.key = k
    · rw [lk_lt fun z hz => by rw [← hkk]; exact hx z hz, lk_lt fun z hz => by rw [← hkk]; exact hy z hz]
    · have := h k
      rwa [lk_cons, if_neg hkk, lk_cons, if_neg hkk] at this
/-- what joinS has for a key -/
def lkB (l : List Bo) (k : W) : Option Bo := l.find? fun x => decide (x.key = k)
theorem lkB_cons (x : Bo) (l : List Bo) (k : W) : lkB (x :: l) k = if x.key = k then some x else lkB l k := by
  unfold lkB
  rw [List.find?_cons]
  by_cases h : x.key = k <;> simp [h]
def SrtB (l : List Bo) : Prop := l.Pairwise fun x y => x.key.num < y.key.num
theorem joinS_mem {k : Nat} : ∀ {l m : List Sl}, (∀ x ∈ l, k < x.key.num) → (∀ x ∈ m, k < x.key.num) → ∀ x ∈ joinS l m, k < x.key.num
  | [], [], _, _, x, h => by simp [joinS] at h
  | a :: r, [], hl, hm, x, h => by
    rw [joinS] at h
    rcases List.mem_cons.1 h with rfl | h
    · exact hl a (by simp)
    · exact joinS_mem (fun z hz => hl z (by simp [hz])) hm x h
  | [], b :: s, hl, hm, x, h => by
    rw [joinS] at h
    rcases List.mem_cons.1 h with rfl | h
    · exact hm b (by simp)
    · exact joinS_mem hl (fun z hz => hm z (by simp [hz])) x h
  | a :: r, b :: s, hl, hm, x, h => by
    rw [joinS] at h
    split at h
    · rcases List.mem_cons.1 h with rfl | h
      · exact hl a (by simp)
      · exact joinS_mem (fun z hz => hl z (by simp [hz])) hm x h
    · split at h
      · rcases List.mem_cons.1 h with rfl | h
        · exact hm b (by simp)
        · exact joinS_mem hl (fun z hz => hm z (by simp [hz])) x h
      · rcases List.mem_cons.1 h with rfl | h
        · exact hm b (by simp)
        · exact joinS_mem (fun z hz => hl z (by simp [hz])) (fun z hz => hm z (by simp [hz])) x h
termination_by l m => l.length + m.length
theorem joinS_srt : ∀ {l m : List Sl}, Srt l → Srt m → SrtB (joinS l m)
  | [], [], _, _ => by simp [joinS, SrtB]
  | a :: r, [], hl, hm => by
    rw [joinS]
    obtain ⟨h1, h2⟩ := List.pairwise_cons.1 hl
    exact List.pairwise_cons.2 ⟨joinS_mem h1 (by simp), joinS_srt h2 hm⟩
  | [], b :: s, hl, hm => by
    rw [joinS]
    obtain ⟨h1, h2⟩ := List.pairwise_cons.1 hm
    exact List.pairwise_cons.2 ⟨joinS_mem (by simp) h1, joinS_srt hl h2⟩
  | a :: r, b :: s, hl, hm => by
    rw [joinS]
    obtain ⟨h1, h2⟩ := List.pairwise_cons.1 hl
    obtain ⟨h3, h4⟩ := List.pairwise_cons.1 hm
    split
    · rename_i hlt
      refine List.pairwise_cons.2 ⟨joinS_mem h1 fun z hz => ?_, joinS_srt h2 hm⟩
      rcases List.mem_cons.1 hz with rfl | hz
      · exact hlt
      · exact Nat.lt_trans hlt (h3 z hz)
    · split
      · rename_i hlt
        refine List.pairwise_cons.2 ⟨joinS_mem (fun z hz => ?_) h3, joinS_srt hl h4⟩
        rcases List.mem_cons.1 hz with rfl | hz
        · exact hlt
        · exact Nat.lt_trans hlt (h1 z hz)
      · rename_i n1 n2
        have he : a.key.num = b.key.num := by omega
        exact List.pairwise_cons.2 ⟨joinS_mem (fun z hz => by dsimp only; rw [← he]; exact h1 z hz) h3, joinS_srt h2 h4⟩
termination_by l m => l.length + m.length
theorem joinS_lk : ∀ {l m : List Sl}, Srt l → Srt m → ∀ k, lkB (joinS l m) k = if (lk l k).isSome || (lk m k).isSome then some ⟨k, getW l k, getW m k, (lk m k).isSome⟩ else none
  | [], [], _, _, k => by simp [joinS, lk_nil, lkB]
  | a :: r, [], hl, hm, k => by
    obtain ⟨h1, h2⟩ := List.pairwise_cons.1 hl
    rw [joinS, lkB_cons, joinS_lk h2 hm k, getW_lk, getW_lk, getW_lk, lk_cons]
    by_cases h : a.key = k
    · subst h; simp [lk_nil]
    · simp [h]
  | [], b :: s, hl, hm, k => by
    obtain ⟨h1, h2⟩ := List.pairwise_cons.1 hm
    rw [joinS, lkB_cons, joinS_lk hl h2 k, getW_lk, getW_lk, getW_lk, lk_cons]
    by_cases h : b.key = k
    · subst h; simp [lk_nil]
    · simp [h]
  | a :: r, b :: s, hl, hm, k => by
    obtain ⟨h1, h2⟩ := List.pairwise_cons.1 hl
    obtain ⟨h3, h4⟩ := List.pairwise_cons.1 hm
    rw [joinS]
    split
    · rename_i hlt
      rw [lkB_cons, joinS_lk h2 hm k]
      simp only [getW_lk, lk_cons a r]
      by_cases h : a.key = k
      · subst h
        have h0 : lk (b :: s) a.key = none := lk_lt fun z hz => by
          rcases List.mem_cons.1 hz with rfl | hz
          · exact hlt
          · exact Nat.lt_trans hlt (h3 z hz)
        simp [h0]
      · simp [h]
    · split
      · rename_i hlt
        rw [lkB_cons, joinS_lk hl h4 k]
        simp only [getW_lk, lk_cons b s]
        by_cases h : b.key = k
        · subst h
          have h0 : lk (a :: r) b.key = none := lk_lt fun z hz => by
            rcases List.mem_cons.1 hz with rfl | hz
            · exact hlt
            · exact Nat.lt_trans hlt (h1 z hz)
          simp [h0]
        · simp [h]
      · rename_i n1 n2
        have he : a.key = b.key := W.num_inj (by omega)
        rw [lkB_cons, joinS_lk h2 h4 k]
        simp only [getW_lk, lk_cons, he]
        by_cases h : b.key = k
        · simp [h]
        · simp [h]
termination_by l m => l.length + m.length
/-- a function that keeps keys -/
theorem filter_srt {f : Bo → Option Sl} (hf : ∀ x y, f x = some y → y.key = x.key) : ∀ {l : List Bo}, SrtB l → Srt (l.filterMap f) ∧ ∀ k, lk (l.filterMap f) k = ((lkB l k).bind f).map (·.val)
  | [], _ => ⟨List.Pairwise.nil, fun k => rfl⟩
  | x :: r, h => by
    obtain ⟨h1, h2⟩ := List.pairwise_cons.1 h
    obtain ⟨i1, i2⟩ := filter_srt hf h2
    have hmem : ∀ z ∈ r.filterMap f, x.key.num < z.key.num := fun z hz => by
      obtain ⟨y, hy, hyz⟩ := List.mem_filterMap.1 hz
      rw [hf y z hyz]; exact h1 y hy
    cases hx : f x with
    | none =>
      rw [List.filterMap_cons_none hx]
      refine ⟨i1, fun k => ?_⟩
      rw [lkB_cons, i2]
      by_cases hk : x.key = k
      · rw [if_pos hk, Option.bind_some, hx]
        rw [← i2, lk_lt fun z hz => by rw [← hk]; exact hmem z hz]; rfl
      · rw [if_neg hk]
    | some y =>
      rw [List.filterMap_cons_some hx]
      have hyk := hf x y hx
      refine ⟨List.pairwise_cons.2 ⟨fun z hz => by rw [hyk]; exact hmem z hz, i1⟩, fun k => ?_⟩
      rw [lk_cons, lkB_cons, i2, hyk]
      by_cases hk : x.key = k
      · rw [if_pos hk, if_pos hk, Option.bind_some, hx]; rfl
      · rw [if_neg hk, if_neg hk]
theorem pickM_key (x : Bo) (y : Sl) (h : pickM x = some y) : y.key = x.key := by
  unfold pickM at h
  by_cases h0 : (if x.inB then x.b else x.a) = W.zero
  · rw [if_pos h0] at h; cases h
  · rw [if_neg h0] at h; rw [← Option.some.inj h]
theorem pickD_key (x : Bo) (y : Sl) (h : pickD x = some y) : y.key = x.key := by
  unfold pickD at h
  by_cases h0 : x.a = x.b
  · rw [if_pos h0] at h; cases h
  · rw [if_neg h0] at h; rw [← Option.some.inj h]
theorem mergeL_srt {l m : List Sl} (hl : Srt l) (hm : Srt m) : Srt (mergeL l m) := (filter_srt pickM_key (joinS_srt hl hm)).1
theorem diffL_srt {l m : List Sl} (hl : Srt l) (hm : Srt m) : Srt (diffL l m) := (filter_srt pickD_key (joinS_srt hl hm)).1
/-- no value is 0 -/
def NoZ (l : List Sl) : Prop := ∀ x ∈ l, ¬ x.val = W.zero
theorem lk_mem {l : List Sl} {k v : W} (h : lk l k = some v) : ∃ x ∈ l, x.key = k ∧ x.val = v := by
  unfold lk at h
  obtain ⟨x, h1, h2⟩ := Option.map_eq_some_iff.1 h
  exact ⟨x, List.mem_of_find?_eq_some h1, by simpa using List.find?_some h1, h2⟩
theorem NoZ.not0 {l : List Sl} (h : NoZ l) {k : W} : ¬ lk l k = some W.zero := fun e => by
  obtain ⟨x, h1, _, h2⟩ := lk_mem e
  exact h x h1 h2
theorem lk_of_mem {l : List Sl} (h : Srt l) {x : Sl} (hx : x ∈ l) : lk l x.key = some x.val := by
  induction l with
  | nil => cases hx
  | cons y r ih =>
    obtain ⟨h1, h2⟩ := List.pairwise_cons.1 h
    rw [lk_cons]
    rcases List.mem_cons.1 hx with rfl | hx
    · rw [if_pos rfl]
    · rw [if_neg (fun e => by have := h1 x hx; rw [e] at this; omega), ih h2 hx]
/-- what Merge keeps -/
theorem mergeL_lk {l m : List Sl} (hl : Srt l) (hm : Srt m) (hz : NoZ l) (k : W) : lk (mergeL l m) k = match lk m k with
    | some v => if v = W.zero then none else some v
    | none => lk l k := by
  unfold mergeL
  rw [(filter_srt pickM_key (joinS_srt hl hm)).2, joinS_lk hl hm]
  cases h1 : lk m k with
  | some v => simp [getW_lk, h1, pickM]; split <;> simp
  | none =>
    cases h2 : lk l k with
    | none => simp
    | some v =>
      have : ¬ v = W.zero := fun e => hz.not0 (k := k) (by rw [h2, e])
      simp [getW_lk, h1, h2, pickM, this]
theorem diffL_lk {l m : List Sl} (hl : Srt l) (hm : Srt m) (k : W) : lk (diffL l m) k = if getW l k = getW m k then none else some (getW m k) := by
  unfold diffL
  rw [(filter_srt pickD_key (joinS_srt hl hm)).2, joinS_lk hl hm]
  split
  · rename_i h; simp only [Option.bind_some, pickD]; split <;> rfl
  · rename_i h
    simp only [Bool.or_eq_true, not_or, Option.not_isSome_iff_eq_none, Bool.not_eq_true, Option.isSome_eq_false_iff, Option.isNone_iff_eq_none] at h
    rw [getW_lk, getW_lk, h.1, h.2, if_pos rfl]; rfl
/-- what may be kept -/
structure Ri (l : List Sl) : Prop where
  srt : Srt l
  noz : NoZ l
  len : l.length ≤ 1000
theorem rightB_iff {l : List Sl} : rightB l = true ↔ Ri l := by
  unfold rightB patchB
  simp only [Bool.and_eq_true, decide_eq_true_eq, Bool.not_eq_true', risesB_iff]
  constructor
  · rintro ⟨⟨h1, h2⟩, h3⟩
    refine ⟨h2, fun x hx e => ?_, h1⟩
    have := List.any_eq_false.1 h3 x hx
    simp [e] at this
  · intro h
    refine ⟨⟨h.len, h.srt⟩, List.any_eq_false.2 fun x hx => ?_⟩
    simpa using h.noz x hx
theorem patchB_iff {l : List Sl} : patchB l = true ↔ l.length ≤ 1000 ∧ Srt l := by
  unfold patchB
  simp only [Bool.and_eq_true, decide_eq_true_eq, risesB_iff]
theorem NoZ.get {l : List Sl} (h : NoZ l) (k : W) : lk l k = if getW l k = W.zero then none else some (getW l k) := by
  rw [getW_lk]
  cases h1 : lk l k with
  | none => simp
  | some v =>
    have : ¬ v = W.zero := fun e => h.not0 (k := k) (by rw [h1, e])
    simp [this]
theorem mergeL_noz {l m : List Sl} (hl : Srt l) (hm : Srt m) (hz : NoZ l) : NoZ (mergeL l m) := fun x hx e => by
  have h := lk_of_mem (mergeL_srt hl hm) hx
  rw [mergeL_lk hl hm hz, e] at h
  split at h
  · split at h
    · cases h
    · rename_i h0; exact h0 (Option.some.inj h)
  · exact hz.not0 h
/-- **the stage's theorem** -/
theorem merge_diff {a b : List Sl} (ha : Ri a) (hb : Ri b) : mergeL a (diffL a b) = b := by
  have hd := diffL_srt ha.srt hb.srt
  refine srt_ext (mergeL_srt ha.srt hd) hb.srt fun k => ?_
  rw [mergeL_lk ha.srt hd ha.noz, diffL_lk ha.srt hb.srt]
  by_cases h : getW a k = getW b k
  · rw [if_pos h]
    dsimp only
    rw [ha.noz.get, hb.noz.get, h]
  · rw [if_neg h]
    dsimp only
    rw [hb.noz.get]
theorem diff_self (a : List Sl) (ha : Ri a) : diffL a a = [] := by
  have hd := diffL_srt ha.srt ha.srt
  refine srt_ext hd List.Pairwise.nil fun k => ?_
  rw [diffL_lk ha.srt ha.srt, if_pos rfl, lk_nil]
theorem joinS_bound (l m : List Sl) : (mergeL l m).length ≤ l.length + m.length ∧ (diffL l m).length ≤ l.length + m.length :=
  ⟨Nat.le_trans (List.length_filterMap_le ..) (joinS_len l m), Nat.le_trans (List.length_filterMap_le ..) (joinS_len l m)⟩
theorem insS_mem (x : Sl) : ∀ (l : List Sl) (d : Bool), ∀ z ∈ insS x l d, z = x ∨ z ∈ l
  | [], d, z, h => by cases d <;> simp [insS] at h; exact .inl h
  | y :: r, d, z, h => by
    simp only [insS, List.mem_append] at h
    rcases h with h | h | h
    · split at h
      · exact .inl (by simpa using h)
      · cases h
    · split at h
      · cases h
      · exact .inr (by simp at h; simp [h])
    · exact (insS_mem x r _ z h).imp id fun h => by simp [h]
theorem insS_srt1 (x : Sl) : ∀ (l : List Sl), Srt l → (∀ y ∈ l, x.key.num ≤ y.key.num) → Srt (insS x l true) ∧ ∀ z ∈ insS x l true, x.key.num < z.key.num
  | [], _, _ => by simp [insS, Srt]
  | y :: r, h, hy => by
    obtain ⟨h1, h2⟩ := List.pairwise_cons.1 h
    obtain ⟨i1, i2⟩ := insS_srt1 x r h2 fun z hz => hy z (by simp [hz])
    simp only [insS, Bool.not_true, Bool.false_and, Bool.false_eq_true, if_false, List.nil_append, Bool.true_or]
    split
    · exact ⟨i1, i2⟩
    · rename_i hne
      have h3 := hy y (by simp)
      have h4 : ¬ y.key.num = x.key.num := fun e => hne (W.num_inj e)
      refine ⟨List.pairwise_cons.2 ⟨fun z hz => ?_, i1⟩, fun z hz => ?_⟩
      · rcases insS_mem x r true z hz with rfl | hz'
        · have := i2 z hz; omega
        · exact h1 z hz'
      · rcases List.mem_cons.1 hz with rfl | hz
        · omega
        · exact i2 z hz
theorem insS_srt (x : Sl) : ∀ (l : List Sl), Srt l → Srt (insS x l false)
  | [], _ => by simp [insS, Srt]
  | y :: r, h => by
    obtain ⟨h1, h2⟩ := List.pairwise_cons.1 h
    simp only [insS, Bool.not_false, Bool.true_and, Bool.false_or]
    by_cases hle : x.key.num ≤ y.key.num
    · simp only [hle, decide_true, if_true]
      obtain ⟨i1, i2⟩ := insS_srt1 x r h2 fun z hz => Nat.le_of_lt (Nat.lt_of_le_of_lt hle (h1 z hz))
      split
      · exact List.pairwise_cons.2 ⟨i2, i1⟩
      · rename_i hne
        have h4 : ¬ y.key.num = x.key.num := fun e => hne (W.num_inj e)
        refine List.pairwise_cons.2 ⟨fun z hz => ?_, List.pairwise_cons.2 ⟨fun z hz => ?_, i1⟩⟩
        · rcases List.mem_cons.1 hz with rfl | hz
          · omega
          · exact i2 z hz
        · rcases insS_mem x r true z hz with rfl | hz'
          · have := i2 z hz; omega
          · exact h1 z hz'
    · simp only [hle, decide_false, Bool.false_eq_true, if_false, List.nil_append]
      rw [if_neg (fun e => hle (by rw [e]; exact Nat.le_refl _))]
      refine List.pairwise_cons.2 ⟨fun z hz => ?_, insS_srt x r h2⟩
      rcases insS_mem x r false z hz with rfl | hz'
      · omega
      · exact h1 z hz'
theorem slotsL_ok (noughts : Bool) : ∀ (raw : List (Int × Int)) (out : List Sl), Srt out → (noughts = false → NoZ out) → Srt (slotsL noughts raw out) ∧ (noughts = false → NoZ (slotsL noughts raw out)) ∧ (slotsL noughts raw out).length ≤ out.length + raw.length
  | [], out, h, hz => ⟨h, hz, by simp [slotsL]⟩
  | r :: rs, out, h, hz => by
    obtain ⟨i1, i2, i3⟩ := slotsL_ok noughts rs (insS (mkSl noughts r) out false) (insS_srt _ _ h) (fun hn x hx => by
      rcases insS_mem _ _ _ x hx with rfl | hx
      · subst hn
        show ¬ mkVal r.2 false = W.zero
        unfold mkVal
        split
        · simp only [Bool.false_eq_true, if_false]; decide
        · rename_i h0
          intro e
          have := congrArg W.a e
          have hb := pickN_lt r.2 (n := 5) (by omega)
          simp only [W.lo, W.zero] at this
          omega
      · exact hz hn x hx)
    have := insS_len (mkSl noughts r) out false
    exact ⟨i1, i2, by rw [slotsL, List.length_cons]; omega⟩
theorem slotsL_ri (raw : List (Int × Int)) : Ri (slotsL false (raw.take 20) []) := by
  obtain ⟨h1, h2, h3⟩ := slotsL_ok false (raw.take 20) [] List.Pairwise.nil (fun _ x hx => by cases hx)
  refine ⟨h1, h2 rfl, ?_⟩
  have : (raw.take 20).length ≤ 20 := by simp; omega
  simp at h3 this
  omega
theorem slotsL_len (n : Bool) (raw : List (Int × Int)) : (slotsL n (raw.take 20) []).length ≤ 20 ∧ Srt (slotsL n (raw.take 20) []) := by
  obtain ⟨h1, _, h3⟩ := slotsL_ok n (raw.take 20) [] List.Pairwise.nil (fun _ x hx => by cases hx)
  have : (raw.take 20).length ≤ 20 := by simp; omega
  simp at h3 this
  exact ⟨by omega, h1⟩
end Go.Ev
