/- Lg: TableGets: the plain law. -/
import Derived.Test.YtfjenfjfiinjmaaLb
set_option linter.unusedSimpArgs false
set_option linter.unusedVariables false
namespace Go.Ev
/-- the keys are unlike -/
def Unl (l : List Sl) : Prop := l.Pairwise fun x y => ¬ x.key = y.key
theorem srt_unl {l : List Sl} (h : Srt l) : Unl l := List.Pairwise.imp (fun {x y} hxy e => by rw [e] at hxy; omega) h
theorem unl_rev {l : List Sl} (h : Unl l) : Unl l.reverse := by
  unfold Unl at *
  rw [List.pairwise_reverse]
  exact List.Pairwise.imp (fun {x y} hxy e => hxy e.symm) h
theorem lk_app (l m : List Sl) (k : W) : lk (l ++ m) k = (lk l k).or (lk m k) := by
  induction l with
  | nil => simp [lk_nil]
  | cons x r ih =>
    rw [List.cons_append, lk_cons, lk_cons, ih]
    by_cases h : x.key = k <;> simp [h]
theorem lk_unl {l : List Sl} (h : Unl l) {x : Sl} (hx : x ∈ l) : lk l x.key = some x.val := by
  induction l with
  | nil => cases hx
  | cons y r ih =>
    obtain ⟨h1, h2⟩ := List.pairwise_cons.1 h
    rw [lk_cons]
    rcases List.mem_cons.1 hx with rfl | hx
    · rw [if_pos rfl]
    · rw [if_neg (h1 x hx), ih h2 hx]
theorem lk_rev {l : List Sl} (h : Unl l) (k : W) : lk l.reverse k = lk l k := by
  cases h1 : lk l k with
  | none =>
    refine lk_none fun x hx e => ?_
    have := lk_unl h (List.mem_reverse.1 hx)
    rw [e, h1] at this; cases this
  | some v =>
    obtain ⟨x, h2, h3, h4⟩ := lk_mem h1
    have := lk_unl (unl_rev h) (List.mem_reverse.2 h2)
    rw [h3, h4] at this; exact this
/-- put one behind the other -/
def putsL (a : List Sl) (s : List Sl) : List Sl := s.foldl (fun q x => mergeL q [x]) a
theorem putsL_succ (a s : List Sl) (x : Sl) : putsL a (s ++ [x]) = mergeL (putsL a s) [x] := by
  unfold putsL; rw [List.foldl_append]; rfl
theorem srt_one (x : Sl) : Srt [x] := List.pairwise_singleton _ _
theorem putsL_ok {a : List Sl} (ha : Srt a) (hz : NoZ a) : ∀ (n : Nat) (s : List Sl), s.length = n → Srt (putsL a s) ∧ NoZ (putsL a s) ∧ (putsL a s).length ≤ a.length + n
  | 0, s, h => by
    obtain rfl := List.length_eq_zero_iff.1 h
    exact ⟨ha, hz, Nat.le_refl _⟩
  | n + 1, s, h => by
    obtain ⟨s', x, rfl⟩ : ∃ s' x, s = s' ++ [x] := ⟨s.dropLast, s.getLast (by intro e; rw [e] at h; simp at h), (List.dropLast_concat_getLast _).symm⟩
    obtain ⟨h1, h2, h3⟩ := putsL_ok ha hz n s' (by simpa using h)
    rw [putsL_succ]
    have := (joinS_bound (putsL a s') [x]).1
    simp only [List.length_singleton] at this
    exact ⟨mergeL_srt h1 (srt_one x), mergeL_noz h1 (srt_one x) h2, by omega⟩
theorem putsL_lk {a : List Sl} (ha : Srt a) (hz : NoZ a) (k : W) : ∀ (n : Nat) (s : List Sl), s.length = n → Unl s → lk (putsL a s) k = match lk s k with
    | some v => if v = W.zero then none else some v
    | none => lk a k
  | 0, s, h, _ => by
    obtain rfl := List.length_eq_zero_iff.1 h
    rfl
  | n + 1, s, h, hu => by
    obtain ⟨s', x, rfl⟩ : ∃ s' x, s = s' ++ [x] := ⟨s.dropLast, s.getLast (by intro e; rw [e] at h; simp at h), (List.dropLast_concat_getLast _).symm⟩
    obtain ⟨u1, _, u2⟩ := List.pairwise_append.1 hu
    obtain ⟨h1, h2, _⟩ := putsL_ok ha hz n s' (by simpa using h)
    rw [putsL_succ, mergeL_lk h1 (srt_one x) h2, putsL_lk ha hz k n s' (by simpa using h) u1, lk_app, lk_cons]
    by_cases hk : x.key = k
    · have h0 : lk s' k = none := lk_none fun y hy e => u2 y hy x (by simp) (e.trans hk.symm)
      simp [hk, h0]
    · simp [hk, lk_nil]
theorem puts_merge {a b : List Sl} (ha : Ri a) (hb : Srt b) : putsL a b = mergeL a b := by
  obtain ⟨h1, h2, _⟩ := putsL_ok ha.srt ha.noz b.length b rfl
  refine srt_ext h1 (mergeL_srt ha.srt hb) fun k => ?_
  rw [putsL_lk ha.srt ha.noz k _ b rfl (srt_unl hb), mergeL_lk ha.srt hb ha.noz]
  cases lk b k <;> rfl
theorem puts_rev {a b : List Sl} (ha : Ri a) (hb : Srt b) : putsL a b.reverse = mergeL a b := by
  obtain ⟨h1, h2, _⟩ := putsL_ok ha.srt ha.noz b.reverse.length b.reverse rfl
  refine srt_ext h1 (mergeL_srt ha.srt hb) fun k => ?_
  rw [putsL_lk ha.srt ha.noz k _ b.reverse rfl (unl_rev (srt_unl hb)), mergeL_lk ha.srt hb ha.noz, lk_rev (srt_unl hb)]
  cases lk b k <;> rfl
theorem merge_get {a b : List Sl} (ha : Ri a) (hb : Srt b) {x : Sl} (hx : x ∈ b) : getW (mergeL a b) x.key = x.val := by
  rw [getW_lk, mergeL_lk ha.srt hb ha.noz, lk_of_mem hb hx]
  dsimp only
  split
  · rename_i h; rw [h]; rfl
  · rfl
theorem merge_keep {a : List Sl} (ha : Ri a) {k w : W} {x : Sl} (hx : x ∈ a) (hk : ¬ x.key = k) : getW (mergeL a [⟨k, w⟩]) x.key = x.val := by
  rw [getW_lk, mergeL_lk ha.srt (srt_one _) ha.noz, lk_cons, if_neg (fun e => hk e.symm), lk_nil, lk_of_mem ha.srt hx]
  rfl
theorem merge_ri {a : List Sl} (ha : Ri a) {m : List Sl} (hm : Srt m) (h : a.length + m.length ≤ 1000) : Ri (mergeL a m) :=
  ⟨mergeL_srt ha.srt hm, mergeL_noz ha.srt hm ha.noz, Nat.le_trans (joinS_bound a m).1 h⟩
theorem subH_new : ∀ (H N : Hp), (∀ e ∈ N, ∀ x ∈ H, ¬ x.blk = e.blk) → subH (N ++ H) H
  | [], N, _ => by cases N <;> exact trivial
  | e :: r, N, h => by
    have hn : ∀ x ∈ N, ¬ x.blk = e.blk := fun x hx he => h x hx e (by simp) he.symm
    refine ⟨by rw [findE_skip hn]; simp [findE], ?_⟩
    have : ∀ (M : Hp), (∀ x ∈ M, ¬ x.blk = e.blk) → remE (M ++ e :: r) e.blk = M ++ r := fun M => by
      induction M with
      | nil => intro _; simp [remE]
      | cons y M ih =>
        intro hM
        have hy := hM y (by simp)
        rw [List.cons_append, remE, if_neg (Ne.symm hy), ih fun x hx => hM x (by simp [hx])]
        rfl
    rw [this N hn]
    exact subH_new r N fun x hx y hy => h x hx y (by simp [hy])
end Go.Ev
