/- Texts of this claim, merged by program: Pa Ao. -/
import Derived.Test.YtpcjmmdgopihcaaGreatDoorZgAj
import Derived.Test.YtpcjmmdgopihcaaGreatDoorZgAh
set_option linter.unusedSimpArgs false
set_option linter.unusedVariables false
set_option maxRecDepth 100000
set_option maxHeartbeats 4000000
namespace Go.Ev
structure RiS (s : List Ac) : Prop where
 may : ∀ x ∈ s, mayA x = true
 ne : ∀ x ∈ s, emptyA x = false
 srt : s.Pairwise fun x y => x.at_.num < y.at_.num
 len : s.length ≤ 200
theorem okAt_spec {l : List Ac} {i : Nat} (hi : i < l.length) : okAt l i = true ↔ mayA l[i] = true ∧ emptyA l[i] = false ∧ (∀ _ : 0 < i, (l[i - 1]'(by omega)).at_.num < l[i].at_.num) := by
 unfold okAt
 rw [List.getElem?_eq_getElem hi]
 dsimp only
 simp only [Bool.and_eq_true, Bool.not_eq_true', Bool.or_eq_true, decide_eq_true_eq]
 rw [List.getElem?_eq_getElem (show i - 1 < l.length by omega)]
 dsimp only
 simp only [decide_eq_true_eq]
 constructor
 · rintro ⟨h1, h2, h3⟩
   exact ⟨h1, h2, fun h0 => h3.resolve_left (by omega)⟩
 · rintro ⟨h1, h2, h3⟩
   refine ⟨h1, h2, ?_⟩
   rcases Nat.eq_zero_or_pos i with h | h
   · exact .inl h
   · exact .inr (h3 h)
theorem rightS_iff {s : List Ac} : rightS s = true ↔ RiS s := by
 unfold rightS
 simp only [Bool.and_eq_true, List.all_eq_true, List.mem_range, decide_eq_true_eq]
 constructor
 · rintro ⟨h, hl⟩
   have key : ∀ (j i : Nat) (hj : j < s.length) (hij : i < j), (s[i]'(by omega)).at_.num < s[j].at_.num := by
    intro j
    induction j with
    | zero => intro i hj hij; omega
    | succ j ih =>
      intro i hj hij
      have h1 := ((okAt_spec hj).1 (h _ hj)).2.2 (Nat.succ_pos j)
      rcases Nat.lt_or_ge i j with h2 | h2
      · exact Nat.lt_trans (ih i (by omega) h2) h1
      · obtain rfl : i = j := by omega
        exact h1
   refine ⟨fun x hx => ?_, fun x hx => ?_, ?_, hl⟩
   · obtain ⟨i, hi, rfl⟩ := List.getElem_of_mem hx
     exact ((okAt_spec hi).1 (h i hi)).1
   · obtain ⟨i, hi, rfl⟩ := List.getElem_of_mem hx
     exact ((okAt_spec hi).1 (h i hi)).2.1
   · rw [List.pairwise_iff_getElem]
     exact fun i j hi hj hij => key j i hj hij
 · intro h
   refine ⟨fun i hi => (okAt_spec hi).2 ⟨h.may _ (List.getElem_mem hi), h.ne _ (List.getElem_mem hi), fun h0 => ?_⟩, h.len⟩
   exact List.pairwise_iff_getElem.1 h.srt (i - 1) i (by omega) hi (by omega)
theorem RiS.nil : RiS [] := ⟨fun x hx => (by cases hx), fun x hx => (by cases hx), List.Pairwise.nil, by simp⟩
noncomputable def putS (s : List Ac) (x : Ac) : List Ac := s.filter (fun y => decide (y.at_.num < x.at_.num)) ++ ((if emptyA x then [] else [x]) ++ s.filter (fun y => decide (x.at_.num < y.at_.num)))
noncomputable def setS (s : List Ac) (x : Ac) : List Ac × Int := if rightS s && mayA x then (if 200 < (putS s x).length then ([], 2) else (putS s x, 0)) else ([], 1)
def Ch.zero : Ch := ⟨0, Ad.zero, W.zero, W.zero, 0, .empty⟩
noncomputable def chA (x : Ac) (c : Ch) : Ac × Ch × Int :=
 if c.kind = 1 then (⟨x.at_, c.val, x.nonce, x.code, x.slots⟩, ⟨c.kind, c.at_, W.zero, x.bal, 0, .empty⟩, 0)
 else if c.kind = 2 then (⟨x.at_, x.bal, c.nonce, x.code, x.slots⟩, ⟨c.kind, c.at_, W.zero, W.zero, x.nonce, .empty⟩, 0)
 else if c.kind = 3 then (⟨x.at_, x.bal, x.nonce, c.code, x.slots⟩, ⟨c.kind, c.at_, W.zero, W.zero, 0, x.code⟩, 0)
 else if c.kind = 4 then (⟨x.at_, x.bal, x.nonce, x.code, (mergeR x.slots [⟨c.key, c.val⟩]).1⟩, ⟨c.kind, c.at_, c.key, getW x.slots c.key, 0, .empty⟩, (mergeR x.slots [⟨c.key, c.val⟩]).2)
 else (x, ⟨c.kind, c.at_, W.zero, W.zero, 0, .empty⟩, 1)
noncomputable def doS (s : List Ac) (c : Ch) : List Ac × Ch × Int :=
 if rightS s = false then (s, Ch.zero, 1)
 else if (chA (findS s c.at_) c).2.2 ≠ 0 then (s, Ch.zero, (chA (findS s c.at_) c).2.2)
 else if (setS s (chA (findS s c.at_) c).1).2 ≠ 0 then (s, Ch.zero, (setS s (chA (findS s c.at_) c).1).2)
 else ((setS s (chA (findS s c.at_) c).1).1, (chA (findS s c.at_) c).2.1, 0)
theorem emptyA_eq {x : Ac} (h : emptyA x = true) : x = emptyAt x.at_ := by
 unfold emptyA at h
 simp only [Bool.and_eq_true, decide_eq_true_eq] at h
 obtain ⟨h1, h2, h3, h4⟩ := h
 have hc : x.code = .empty := by
  have : x.code.data = #[] := Array.size_eq_zero_iff.1 h3
  cases hx : x.code with | mk d => rw [hx] at this; dsimp only at this; rw [this]; rfl
 have hs : x.slots = [] := List.length_eq_zero_iff.1 h4
 cases x
 dsimp only at h1 h2 hc hs
 subst h1 h2 hc hs
 rfl
theorem emptyAt_empty (a : Ad) : emptyA (emptyAt a) = true := by
 unfold emptyA emptyAt
 simp
theorem emptyAt_may (a : Ad) : mayA (emptyAt a) = true := by
 unfold mayA emptyAt
 rw [rightB_iff.2 ⟨List.Pairwise.nil, fun x h => (by cases h), by simp⟩]
 simp
theorem findS_none {s : List Ac} {a : Ad} (h : ∀ x ∈ s, ¬ x.at_ = a) : findS s a = emptyAt a := by
 unfold findS
 rw [List.find?_eq_none.2 fun x hx => by simpa using h x hx]; rfl
theorem findS_some {s : List Ac} (h : s.Pairwise fun x y => x.at_.num < y.at_.num) {x : Ac} (hx : x ∈ s) : findS s x.at_ = x := by
 induction s with
 | nil => cases hx
 | cons y r ih =>
   obtain ⟨h1, h2⟩ := List.pairwise_cons.1 h
   unfold findS
   rw [List.find?_cons]
   rcases List.mem_cons.1 hx with rfl | hx
   · simp
   · have : ¬ y.at_ = x.at_ := fun e => by have := h1 x hx; rw [e] at this; omega
     rw [decide_eq_false this]
     exact ih h2 hx
theorem findS_at (s : List Ac) (a : Ad) : (findS s a).at_ = a := by
 unfold findS
 cases h : s.find? (fun x => decide (x.at_ = a)) with
 | none => rfl
 | some x => simpa using List.find?_some h
theorem findS_cases (s : List Ac) (a : Ad) : (findS s a = emptyAt a ∧ ∀ x ∈ s, ¬ x.at_ = a) ∨ findS s a ∈ s := by
 unfold findS
 cases h : s.find? (fun x => decide (x.at_ = a)) with
 | none => exact .inl ⟨rfl, fun x hx => by simpa using List.find?_eq_none.1 h x hx⟩
 | some x => exact .inr (List.mem_of_find?_eq_some h)
theorem RiS.findMay {s : List Ac} (h : RiS s) (a : Ad) : mayA (findS s a) = true := by
 rcases findS_cases s a with ⟨h1, -⟩ | h1
 · rw [h1]; exact emptyAt_may a
 · exact h.may _ h1
theorem putS_mem {s : List Ac} {x y : Ac} (h : y ∈ putS s x) : (y = x ∧ emptyA x = false) ∨ (y ∈ s ∧ ¬ y.at_.num = x.at_.num) := by
 unfold putS at h
 simp only [List.mem_append, List.mem_filter, decide_eq_true_eq] at h
 rcases h with ⟨h1, h2⟩ | h | ⟨h1, h2⟩
 · exact .inr ⟨h1, by omega⟩
 · split at h
   · cases h
   · rename_i he; exact .inl ⟨List.mem_singleton.1 h, by simpa using he⟩
 · exact .inr ⟨h1, by omega⟩
theorem putS_keep {s : List Ac} {x y : Ac} (h : y ∈ s) (hn : ¬ y.at_.num = x.at_.num) : y ∈ putS s x := by
 unfold putS
 simp only [List.mem_append, List.mem_filter, decide_eq_true_eq]
 rcases Nat.lt_or_ge y.at_.num x.at_.num with h1 | h1
 · exact .inl ⟨h, h1⟩
 · exact .inr (.inr ⟨h, by omega⟩)
theorem putS_self {s : List Ac} {x : Ac} (h : emptyA x = false) : x ∈ putS s x := by
 unfold putS
 rw [h]; simp
theorem putS_srt {s : List Ac} {x : Ac} (h : s.Pairwise fun x y => x.at_.num < y.at_.num) : (putS s x).Pairwise fun x y => x.at_.num < y.at_.num := by
 unfold putS
 rw [List.pairwise_append, List.pairwise_append]
 refine ⟨h.filter _, ⟨?_, h.filter _, ?_⟩, ?_⟩
 · split
   · exact List.Pairwise.nil
   · exact List.pairwise_singleton _ _
 · intro y hy z hz
   have hz' := (List.mem_filter.1 hz).2
   split at hy
   · cases hy
   · rw [List.mem_singleton.1 hy]; simpa using hz'
 · intro y hy z hz
   have hy' := (List.mem_filter.1 hy).2
   simp only [decide_eq_true_eq] at hy'
   rcases List.mem_append.1 hz with hz | hz
   · split at hz
     · cases hz
     · rw [List.mem_singleton.1 hz]; exact hy'
   · have := (List.mem_filter.1 hz).2
     simp only [decide_eq_true_eq] at this
     omega
theorem RiS.put {s : List Ac} (h : RiS s) {x : Ac} (hx : mayA x = true) (hl : (putS s x).length ≤ 200) : RiS (putS s x) := by
 refine ⟨fun y hy => ?_, fun y hy => ?_, putS_srt h.srt, hl⟩
 · rcases putS_mem hy with ⟨rfl, -⟩ | ⟨hy, -⟩
   · exact hx
   · exact h.may y hy
 · rcases putS_mem hy with ⟨rfl, he⟩ | ⟨hy, -⟩
   · exact he
   · exact h.ne y hy
theorem RiS.find_put {s : List Ac} (h : RiS s) (x : Ac) (a : Ad) : findS (putS s x) a = if a = x.at_ then x else findS s a := by
 have hs := putS_srt (x := x) h.srt
 split
 · rename_i ha
   subst ha
   cases he : emptyA x with
   | false => exact findS_some hs (putS_self he)
   | true =>
     conv => rhs; rw [emptyA_eq he]
     refine findS_none fun y hy e => ?_
     rcases putS_mem hy with ⟨rfl, h1⟩ | ⟨-, h1⟩
     · rw [he] at h1; cases h1
     · exact h1 (by rw [e])
 · rename_i ha
   rcases findS_cases s a with ⟨h1, h2⟩ | h1
   · rw [h1]
     refine findS_none fun y hy e => ?_
     rcases putS_mem hy with ⟨rfl, -⟩ | ⟨hy, -⟩
     · exact ha e.symm
     · exact h2 y hy e
   · have h2 := findS_at s a
     have h3 : findS s a ∈ putS s x := putS_keep h1 fun e => ha (by rw [← h2]; exact Ad.num_inj e)
     have := findS_some hs h3
     rw [h2] at this
     exact this
theorem RiS.ext : ∀ {s t : List Ac}, RiS s → RiS t → (∀ a, findS s a = findS t a) → s = t := by
 have mem : ∀ {s t : List Ac}, RiS s → RiS t → (∀ a, findS s a = findS t a) → ∀ x ∈ s, x ∈ t := by
  intro s t hs ht h x hx
  have h1 := findS_some hs.srt hx
  rw [h] at h1
  rcases findS_cases t x.at_ with ⟨h2, -⟩ | h2
  · have h3 := hs.ne x hx
    rw [← h1, h2, emptyAt_empty] at h3; cases h3
  · rw [h1] at h2; exact h2
 intro s t hs ht h
 have h1 := mem hs ht h
 have h2 := mem ht hs fun a => (h a).symm
 clear h mem
 have hs' := hs.srt
 have ht' := ht.srt
 clear hs ht
 induction s generalizing t with
 | nil => cases t with
   | nil => rfl
   | cons y r => exact absurd (h2 y (by simp)) (by simp)
 | cons x r ih =>
   cases t with
   | nil => exact absurd (h1 x (by simp)) (by simp)
   | cons y r' =>
     obtain ⟨a1, a2⟩ := List.pairwise_cons.1 hs'
     obtain ⟨b1, b2⟩ := List.pairwise_cons.1 ht'
     have hxy : x = y := by
      rcases List.mem_cons.1 (h1 x (by simp)) with e | hx
      · exact e
      · rcases List.mem_cons.1 (h2 y (by simp)) with e | hy
        · exact e.symm
        · have := a1 y hy; have := b1 x hx; omega
     subst hxy
     congr 1
     refine ih (fun z hz => ?_) (fun z hz => ?_) a2 b2
     · rcases List.mem_cons.1 (h1 z (List.mem_cons_of_mem _ hz)) with rfl | h
       · have := a1 z hz; omega
       · exact h
     · rcases List.mem_cons.1 (h2 z (List.mem_cons_of_mem _ hz)) with rfl | h
       · have := b1 z hz; omega
       · exact h
theorem findS_self {s : List Ac} (h : RiS s) (a : Ad) : putS s (findS s a) = s := by
 have hl : (putS s (findS s a)).length ≤ s.length := by
  have hsub : (putS s (findS s a)).Sublist s := by
   have key : ∀ (l : List Ac), (l.Pairwise fun x y => x.at_.num < y.at_.num) → ∀ z : Ac, (emptyA z = false → z ∈ l) → (putS l z).Sublist l := by
    intro l
    induction l with
    | nil =>
      intro _ z hz
      unfold putS
      cases he : emptyA z with
      | true => exact List.Sublist.refl _
      | false => exact absurd (hz he) (by simp)
    | cons x r ih =>
      intro hp z hz
      obtain ⟨p1, p2⟩ := List.pairwise_cons.1 hp
      rcases Nat.lt_trichotomy x.at_.num z.at_.num with h1 | h1 | h1
      · have h2 : ¬ z.at_.num < x.at_.num := by omega
        have := ih p2 z fun he => (List.mem_cons.1 (hz he)).resolve_left fun e => by rw [e] at h1; omega
        unfold putS at this ⊢
        rw [List.filter_cons_of_pos (by simpa using h1), List.filter_cons_of_neg (by simpa using h2), List.cons_append]
        exact this.cons_cons x
      · have hr : ∀ y ∈ r, z.at_.num < y.at_.num := fun y hy => by have := p1 y hy; omega
        have f1 : r.filter (fun y => decide (y.at_.num < z.at_.num)) = [] := List.filter_eq_nil_iff.2 fun y hy => by have := hr y hy; simp; omega
        have f2 : r.filter (fun y => decide (z.at_.num < y.at_.num)) = r := List.filter_eq_self.2 fun y hy => by simpa using hr y hy
        unfold putS
        rw [List.filter_cons_of_neg (by simp; omega), List.filter_cons_of_neg (by simp; omega), f1, f2, List.nil_append]
        cases he : emptyA z with
        | true => simp
        | false =>
          have : z = x := by
           rcases List.mem_cons.1 (hz he) with e | e
           · exact e
           · have := p1 z e; omega
          subst this
          simp
      · have hr : ∀ y ∈ r, z.at_.num < y.at_.num := fun y hy => by have := p1 y hy; omega
        have he : emptyA z = true := by
         cases he : emptyA z with
         | true => rfl
         | false =>
           rcases List.mem_cons.1 (hz he) with e | e
           · rw [e] at h1; omega
           · have := hr z e; omega
        unfold putS
        rw [he]
        simp only [if_true, List.nil_append]
        have f1 : (x :: r).filter (fun y => decide (y.at_.num < z.at_.num)) = [] := List.filter_eq_nil_iff.2 fun y hy => by
         rcases List.mem_cons.1 hy with rfl | hy
         · simp; omega
         · have := hr y hy; simp; omega
        rw [f1, List.nil_append]
        exact List.filter_sublist
   refine key s h.srt _ fun he => ?_
   rcases findS_cases s a with ⟨h1, -⟩ | h1
   · rw [h1, emptyAt_empty] at he; cases he
   · exact h1
  exact hsub.length_le
 refine RiS.ext (h.put (h.findMay a) (Nat.le_trans hl h.len)) h fun b => ?_
 rw [h.find_put, findS_at]
 split
 · rename_i e; rw [e]
 · rfl
theorem mergeR_val {l : List Sl} (h : Ri l) (k v : W) : mergeR l [⟨k, v⟩] = limR (mergeL l [⟨k, v⟩]) := by
 unfold mergeR
 rw [rightB_iff.2 h, patchB_iff.2 ⟨by simp, srt_one _⟩]; rfl
theorem limR_ok {l : List Sl} (h : (limR l).2 = 0) : limR l = (l, 0) ∧ l.length ≤ 1000 := by
 unfold limR at h ⊢
 split
 · rename_i h1; rw [if_pos h1] at h; cases h
 · exact ⟨rfl, by omega⟩
theorem merge_back {l : List Sl} {k v : W} (h : Ri l) (he : (mergeR l [⟨k, v⟩]).2 = 0) : Ri (mergeR l [⟨k, v⟩]).1 ∧ mergeR (mergeR l [⟨k, v⟩]).1 [⟨k, getW l k⟩] = (l, 0) := by
 rw [mergeR_val h] at he ⊢
 obtain ⟨h1, h2⟩ := limR_ok he
 rw [h1]
 dsimp only
 have hr : Ri (mergeL l [⟨k, v⟩]) := ⟨mergeL_srt h.srt (srt_one _), mergeL_noz h.srt (srt_one _) h.noz, h2⟩
 refine ⟨hr, ?_⟩
 rw [mergeR_val hr]
 have e : mergeL (mergeL l [⟨k, v⟩]) [⟨k, getW l k⟩] = l := by
  refine srt_ext (mergeL_srt hr.srt (srt_one _)) h.srt fun q => ?_
  rw [mergeL_lk hr.srt (srt_one _) hr.noz, mergeL_lk h.srt (srt_one _) h.noz]
  simp only [lk_cons, lk_nil]
  by_cases hq : k = q
  · subst hq
    simp only [if_true]
    rw [h.noz.get]
  · simp only [if_neg hq]
 rw [e]
 unfold limR
 rw [if_neg (by have := h.len; omega)]
theorem chA_at (x : Ac) (c : Ch) : (chA x c).1.at_ = x.at_ ∧ (chA x c).2.1.at_ = c.at_ := by
 unfold chA
 repeat' split
 all_goals exact ⟨rfl, rfl⟩
theorem chA_back {x : Ac} {c : Ch} (hx : Ri x.slots) (h : (chA x c).2.2 = 0) : ∃ w, chA (chA x c).1 (chA x c).2.1 = (x, w, 0) := by
 unfold chA at h ⊢
 by_cases h1 : c.kind = 1
 · simp only [if_pos h1]; exact ⟨_, rfl⟩
 by_cases h2 : c.kind = 2
 · simp only [if_neg h1, if_pos h2]; exact ⟨_, rfl⟩
 by_cases h3 : c.kind = 3
 · simp only [if_neg h1, if_neg h2, if_pos h3]; exact ⟨_, rfl⟩
 by_cases h4 : c.kind = 4
 · simp only [if_neg h1, if_neg h2, if_neg h3, if_pos h4] at h ⊢
   obtain ⟨-, e⟩ := merge_back hx h
   rw [e]
   exact ⟨_, rfl⟩
 · simp only [if_neg h1, if_neg h2, if_neg h3, if_neg h4] at h
   cases h
theorem mayA_slots {x : Ac} (h : mayA x = true) : Ri x.slots := by
 unfold mayA at h
 simp only [Bool.and_eq_true] at h
 exact rightB_iff.1 h.2.2.2
structure Did (s : List Ac) (c : Ch) : Prop where
 ri : RiS s
 ch : (chA (findS s c.at_) c).2.2 = 0
 may : mayA (chA (findS s c.at_) c).1 = true
 len : (putS s (chA (findS s c.at_) c).1).length ≤ 200
theorem setS_ok {s : List Ac} {x : Ac} : (setS s x).2 = 0 ↔ rightS s = true ∧ mayA x = true ∧ (putS s x).length ≤ 200 := by
 unfold setS
 cases rightS s <;> cases mayA x <;> simp
 split <;> simp <;> omega
theorem setS_val {s : List Ac} {x : Ac} (h : (setS s x).2 = 0) : setS s x = (putS s x, 0) := by
 obtain ⟨h1, h2, h3⟩ := setS_ok.1 h
 unfold setS
 rw [h1, h2]
 simp only [Bool.and_self, if_true]
 rw [if_neg (by omega)]
theorem doS_iff {s : List Ac} {c : Ch} : (doS s c).2.2 = 0 ↔ Did s c := by
 unfold doS
 constructor
 · intro h
   cases hr : rightS s with
   | false => rw [if_pos hr] at h; cases h
   | true =>
     rw [if_neg (by rw [hr]; simp)] at h
     by_cases h1 : (chA (findS s c.at_) c).2.2 = 0
     · rw [if_neg (by simpa using h1)] at h
       by_cases h2 : (setS s (chA (findS s c.at_) c).1).2 = 0
       · obtain ⟨-, h3, h4⟩ := setS_ok.1 h2
         exact ⟨rightS_iff.1 hr, h1, h3, h4⟩
       · rw [if_pos h2] at h; exact absurd h h2
     · rw [if_pos h1] at h; exact absurd h h1
 · intro h
   have h2 : (setS s (chA (findS s c.at_) c).1).2 = 0 := setS_ok.2 ⟨rightS_iff.2 h.ri, h.may, h.len⟩
   rw [if_neg (by rw [rightS_iff.2 h.ri]; simp), if_neg (by simpa using h.ch), if_neg (by simpa using h2)]
theorem Did.val {s : List Ac} {c : Ch} (h : Did s c) : doS s c = (putS s (chA (findS s c.at_) c).1, (chA (findS s c.at_) c).2.1, 0) := by
 have h2 : (setS s (chA (findS s c.at_) c).1).2 = 0 := setS_ok.2 ⟨rightS_iff.2 h.ri, h.may, h.len⟩
 unfold doS
 rw [if_neg (by rw [rightS_iff.2 h.ri]; simp), if_neg (by simpa using h.ch), if_neg (by simpa using h2), setS_val h2]
theorem Did.right {s : List Ac} {c : Ch} (h : Did s c) : RiS (doS s c).1 := by
 rw [h.val]; exact h.ri.put h.may h.len
theorem putS_put {s : List Ac} {x y : Ac} (hxy : y.at_ = x.at_) : putS (putS s x) y = putS s y := by
 have f1 : (putS s x).filter (fun z => decide (z.at_.num < y.at_.num)) = s.filter (fun z => decide (z.at_.num < y.at_.num)) := by
  unfold putS
  rw [hxy, List.filter_append, List.filter_append, List.filter_filter, List.filter_filter]
  have e1 : (if emptyA x = true then [] else [x]).filter (fun z => decide (z.at_.num < x.at_.num)) = [] := by
   split
   · rfl
   · rw [List.filter_cons_of_neg (by simp), List.filter_nil]
  have e2 : s.filter (fun z => decide (z.at_.num < x.at_.num) && decide (x.at_.num < z.at_.num)) = [] := List.filter_eq_nil_iff.2 fun z _ => by simp; omega
  rw [e1, e2]
  simp
 have f2 : (putS s x).filter (fun z => decide (y.at_.num < z.at_.num)) = s.filter (fun z => decide (y.at_.num < z.at_.num)) := by
  unfold putS
  rw [hxy, List.filter_append, List.filter_append, List.filter_filter, List.filter_filter]
  have e1 : (if emptyA x = true then [] else [x]).filter (fun z => decide (x.at_.num < z.at_.num)) = [] := by
   split
   · rfl
   · rw [List.filter_cons_of_neg (by simp), List.filter_nil]
  have e2 : s.filter (fun z => decide (x.at_.num < z.at_.num) && decide (z.at_.num < x.at_.num)) = [] := List.filter_eq_nil_iff.2 fun z _ => by simp; omega
  rw [e1, e2]
  simp
 show (putS s x).filter _ ++ (_ ++ (putS s x).filter _) = _
 rw [f1, f2]
 rfl
theorem Did.back {s : List Ac} {c : Ch} (h : Did s c) : ∃ w, doS (doS s c).1 (doS s c).2.1 = (s, w, 0) := by
 have hr := h.right
 rw [h.val] at hr ⊢
 dsimp only at hr ⊢
 have hat := chA_at (findS s c.at_) c
 have hfa := findS_at s c.at_
 obtain ⟨w, hw⟩ := chA_back (mayA_slots (h.ri.findMay c.at_)) h.ch
 have hf : findS (putS s (chA (findS s c.at_) c).1) (chA (findS s c.at_) c).2.1.at_ = (chA (findS s c.at_) c).1 := by
  rw [h.ri.find_put, hat.1, hat.2, hfa, if_pos rfl]
 have hp : putS (putS s (chA (findS s c.at_) c).1) (findS s c.at_) = s := by
  rw [putS_put (by rw [hat.1]), findS_self h.ri]
 have hd : Did (putS s (chA (findS s c.at_) c).1) (chA (findS s c.at_) c).2.1 := by
  refine ⟨hr, ?_, ?_, ?_⟩
  · rw [hf, hw]
  · rw [hf, hw]; exact h.ri.findMay _
  · rw [hf, hw, hp]; exact h.ri.len
 refine ⟨w, ?_⟩
 rw [hd.val, hf, hw, hp]
end Go.Ev
namespace Go.Ev
theorem useV {P : Program} {g : FuncId} {args : List Value} {H : Hp} {Q : Value → Prop} {K' : Value → Hp → Prop} (hc : ∀ M0, roM M0 → cellsAt M0 = cellsAt H → CallsV P g args M0 (fun u N => Q u ∧ N = [])) (hk : ∀ u, Q u → K' u H) : CallsV P g args H K' :=
 (hc (roAll H) (roAll_ro H) (cellsAt_roAll H)).use (derE_behind (L := []) (M := H) trivial) (by
  rintro u N ⟨hq, rfl⟩
  exact ⟨trivial, rfl, fun _ => hk u hq⟩)
theorem CallsV.swap {P : Program} {g : FuncId} {args : List Value} {a b : Ent} {H : Hp} {K : Value → Hp → Prop} (hc : CallsV P g args (b :: a :: H) K) (hm : marksOf (b :: a :: H) = marksOf (a :: b :: H)) : CallsV P g args (a :: b :: H) K := by
 refine ⟨hc.1, fun w0 mu w hs => (hc.2 w0 mu w (hs.perm (List.Perm.swap b a H))).mono ?_⟩
 rintro e w' ⟨v, H', h1, h2, h3, h4⟩
 exact ⟨v, H', h1, h2, h3, h4.trans hm⟩
section
variable {L : List (Ac × Value)} {a : Ad} {i : Nat}
theorem place_lt (h : PlaceA L a i) : (L.map (·.1)).filter (fun y => decide (y.at_.num < a.num)) = (L.take i).map (·.1) := by
 conv => lhs; rw [← List.take_append_drop i L]
 rw [List.map_append, List.filter_append, List.filter_eq_self.2, List.filter_eq_nil_iff.2, List.append_nil]
 · intro y hy
   obtain ⟨x, hx, rfl⟩ := List.mem_map.1 hy
   obtain ⟨k, hk⟩ := List.getElem?_of_mem hx
   rw [List.getElem?_drop] at hk
   have := h.hi (i + k) x (by omega) hk
   simp only [decide_eq_true_eq]
   omega
 · intro y hy
   obtain ⟨x, hx, rfl⟩ := List.mem_map.1 hy
   obtain ⟨k, hk⟩ := List.getElem?_of_mem hx
   rw [List.getElem?_take] at hk
   split at hk
   · rename_i hki
     simpa using h.lo k x hki hk
   · cases hk
theorem place_gt {j : Nat} (h : PlaceA L a i) (hij : i ≤ j) (hlo : ∀ (k : Nat) (x : Ac × Value), i ≤ k → k < j → L[k]? = some x → x.1.at_ = a) (hhi : ∀ (k : Nat) (x : Ac × Value), j ≤ k → L[k]? = some x → a.num < x.1.at_.num) :
  (L.map (·.1)).filter (fun y => decide (a.num < y.at_.num)) = (L.drop j).map (·.1) := by
 conv => lhs; rw [← List.take_append_drop j L]
 rw [List.map_append, List.filter_append, List.filter_eq_nil_iff.2, List.filter_eq_self.2, List.nil_append]
 · intro y hy
   obtain ⟨x, hx, rfl⟩ := List.mem_map.1 hy
   obtain ⟨k, hk⟩ := List.getElem?_of_mem hx
   rw [List.getElem?_drop] at hk
   simpa using hhi (j + k) x (by omega) hk
 · intro y hy
   obtain ⟨x, hx, rfl⟩ := List.mem_map.1 hy
   obtain ⟨k, hk⟩ := List.getElem?_of_mem hx
   rw [List.getElem?_take] at hk
   split at hk
   · rename_i hki
     simp only [decide_eq_true_eq]
     rcases Nat.lt_or_ge k i with h1 | h1
     · have := h.lo k x h1 hk; omega
     · rw [hlo k x h1 hki hk]; omega
   · cases hk
theorem put_is (h : PlaceA L a i) (hs : L.Pairwise fun x y => x.1.at_.num < y.1.at_.num) {y : Ac × Value} (hy : L[i]? = some y) (hya : y.1.at_ = a) {x : Ac} (hx : x.at_ = a) : putS (L.map (·.1)) x = (L.take i).map (·.1) ++ ((if emptyA x then [] else [x]) ++ (L.drop (i + 1)).map (·.1)) := by
 unfold putS
 rw [hx, place_lt h, place_gt h (Nat.le_succ i)]
 · intro k z h1 h2 hz
   obtain rfl : k = i := by omega
   rw [hy] at hz; cases hz; exact hya
 · intro k z h1 hz
   obtain ⟨hk1, hk2⟩ := List.getElem?_eq_some_iff.1 hz
   obtain ⟨hi1, hi2⟩ := List.getElem?_eq_some_iff.1 hy
   have := List.pairwise_iff_getElem.1 hs i k hi1 hk1 h1
   rw [hk2, hi2, hya] at this
   exact this
theorem put_not (h : PlaceA L a i) (hs : L.Pairwise fun x y => x.1.at_.num < y.1.at_.num) (hn : ¬ ∃ y, L[i]? = some y ∧ y.1.at_ = a) {x : Ac} (hx : x.at_ = a) : putS (L.map (·.1)) x = (L.take i).map (·.1) ++ ((if emptyA x then [] else [x]) ++ (L.drop i).map (·.1)) := by
 unfold putS
 rw [hx, place_lt h, place_gt h (Nat.le_refl i)]
 · intro k z h1 h2 hz; omega
 · intro k z h1 hz
   have h3 := h.hi k z h1 hz
   rcases Nat.lt_or_ge i k with h4 | h4
   · obtain ⟨hk1, hk2⟩ := List.getElem?_eq_some_iff.1 hz
     have hi1 : i < L.length := by omega
     have h5 := List.pairwise_iff_getElem.1 hs i k hi1 hk1 h4
     have h6 := h.hi i L[i] (Nat.le_refl i) (List.getElem?_eq_getElem hi1)
     rw [hk2] at h5
     omega
   · obtain rfl : k = i := by omega
     rcases Nat.lt_or_ge a.num z.1.at_.num with h5 | h5
     · exact h5
     · exact absurd ⟨z, hz, Ad.num_inj (by omega)⟩ hn
end
def SetO (e : Nat) (r : List Ac × Int) : Value → Hp → Hp → Prop := fun u N1 H => ∃ w, u = .tuple #[w, .int .i64 r.2] ∧ StO e r.1 w N1 H
theorem SetO.rd (e : Nat) (r : List Ac × Int) : RdOwn (SetO e r) := by
 rintro v N1 A B h ⟨w, rfl, h1⟩
 exact ⟨w, rfl, StO.rd _ _ _ _ _ _ h h1⟩
theorem StO.nil (e : Nat) (H : Hp) : StO e [] (.slice none 0 0) [] H := ⟨[], rfl, .inl ⟨rfl, rfl, rfl, rfl⟩, fun x hx => by cases hx⟩
end Go.Ev
namespace Go.Proofs.YtpcjmmdgopihcaaGreatDoor
open Go Go.Ev Go.Proofs
theorem insert0_ok {z : Ac × Value} {b2 k2 : Nat} (hz : oneC z.2 = true) :
  CallsV Tryz.prog 47 [.slice none 0 0, .int .i64 0, .slice (some ⟨b2, 0, none⟩) 1 k2] [⟨b2, 0, .vec 31 27 1, acC z⟩]
   (fun v N => OutG 31 27 ([z].flatMap acC) 1 v N) := by
 have hoz : (acC z).all oneC = true := acC_all hz
 refine callsO gA2_ok Tryz.mix Tryz.pl47 Tryz.func47 rfl Tryz.ntmps47 Tryz.results47 rfl (by first | rfl | assumption) (Nat.le_of_ble_eq_true rfl) (by kernel_rfl) ?_
 simp only [push_cast, seval, reduceCtorEq, hoz, beq_self_eq_true]
 refine ⟨by unfold two47; decide, fun b' c' hbb hcc => ?_⟩
 refine ⟨[_], (List.nil_sublist _).cons_cons _, .inr ⟨b', c', rfl, hcc, ?_, ?_⟩⟩
 · rw [List.flatMap_cons, List.flatMap_nil, List.append_nil, acC_len]
 · rw [List.flatMap_cons, List.flatMap_nil, List.append_nil]
theorem sset_ok {M : Hp} {s : List Ac} {v sv : Value} {x : Ac} (hv : StR s v M) (hx : LiR Sl.cells 8 M x.slots sv) (hn : s.length ≤ 1000000000) : CallsW Tryz.prog 22 [v, .agg (x.cells sv).toArray] M (SetO 31 (setS s x)) := by
 intro M0 hr he
 have hm := hr.marks
 replace hv := StR.rd _ _ _ _ he.symm hv
 replace hx := hx.congr he.symm
 have ho := x.all1 sv hx.one
 refine callsO gA2_ok Tryz.mix (fun i => if i = 1 then [(0, 9)] else Tryz.pl22 i) Tryz.func22 rfl Tryz.ntmps22 Tryz.results22 rfl (by first | rfl | assumption) (Nat.le_of_ble_eq_true rfl) (by kernel_rfl) ?_
 simp only [push_cast, seval, reduceCtorEq]
 intro b3 hb3
 have hL3 : freshN [⟨b3, 0, .cel 31, x.cells sv⟩] M0 := ⟨hb3, trivial⟩
 refine regO gA2_ok ?_
 simp only [push_cast, seval, reduceCtorEq]
 refine useP [_] (fun M1 hr1 he1 => sright_ok (StR.rd _ _ _ _ he1.symm hv) hr1.marks (by omega)) hL3 ?_
 cases hrs : rightS s
 case false =>
  have e : setS s x = ([], 1) := by unfold setS; rw [hrs]; rfl
  rw [e]
  simp only [push_cast, seval, reduceCtorEq]
  exact doneN [_] (N1 := []) (M1 := M0) (Gr.refl hm) trivial rfl trivial (SetO.rd _ _) ⟨_, rfl, StO.nil _ _⟩
 simp only [push_cast, seval, reduceCtorEq]
 refine useP [_] (fun M1 hr1 he1 => may_ok (hx.congr he1.symm) hr1.marks) hL3 ?_
 cases hmx : mayA x
 case false =>
  have e : setS s x = ([], 1) := by unfold setS; rw [hrs, hmx]; rfl
  rw [e]
  simp only [push_cast, seval, reduceCtorEq]
  exact doneN [_] (N1 := []) (M1 := M0) (Gr.refl hm) trivial rfl trivial (SetO.rd _ _) ⟨_, rfl, StO.nil _ _⟩
 simp only [push_cast, seval, reduceCtorEq]
 have hri := rightS_iff.1 hrs
 have hxr := mayA_slots hmx
 refine useN [_] (mapped_ok hv hn fun y hy => by have := (mayA_slots (hri.may y hy)).len; omega) (StO.rd _ _) hm hL3 fun w N M1 hg hf hL hw hmN hq => ?_
 obtain ⟨L, rfl, hLo, hLs⟩ := hq
 have hlen : (L.map (·.1)).length = L.length := List.length_map _
 have hl200 : L.length ≤ 200 := by have := hri.len; rw [hlen] at this; exact this
 have hone : ∀ y ∈ L, oneC y.2 = true := fun y hy => (hLs y hy).one
 have hsrt : L.Pairwise fun x y => x.1.at_.num < y.1.at_.num := by have := hri.srt; rwa [List.pairwise_map] at this
 have hset : setS (L.map (·.1)) x = if 200 < (putS (L.map (·.1)) x).length then ([], 2) else (putS (L.map (·.1)) x, 0) := by
  unfold setS; rw [hrs, hmx]; rfl
 have hx1 : LiR Sl.cells 8 M1 x.slots sv := hx.ext hg.ext
 rcases hLo with ⟨h0, h1, rfl, rfl⟩ | ⟨b, c, rfl, hc, hcl, rfl⟩
 · obtain rfl : L = [] := List.length_eq_zero_iff.1 h0
   have hp0 : putS (([] : List (Ac × Value)).map (·.1)) x = if emptyA x then [] else [x] := by unfold putS; simp
   rw [hp0, List.map_nil] at hset
   simp only [push_cast, seval, reduceCtorEq]
   refine useV (Q := fun u => u = .tuple #[.int .i64 0, .bool false]) (fun M2 hr2 he2 => (bsearch_ok (L := []) (a := x.at_) hr2.marks (by decide) (LiR.nil _ _) (fun y hy => by cases hy) List.Pairwise.nil).toK fun u N h => ?_) ?_
   · obtain ⟨i, hi, rfl, rfl⟩ := h
     have : i = 0 := Nat.le_zero.1 hi.le
     subst this
     exact ⟨by simp, rfl⟩
   rintro u rfl
   simp only [push_cast, seval, reduceCtorEq]
   refine useP [_] (fun M1 hr1 he1 => empty_ok (hx1.congr he1.symm) hr1.marks) hL ?_
   cases hem : emptyA x
   · rw [hem] at hset
     rw [hset]
     simp only [push_cast, seval, reduceCtorEq]
     refine useL [_] (sown_ok hx1 (by have := hxr.len; omega)) (AcR.rd _) hg.marks hL fun w2 M2 hg2 hL2 hq2 => ?_
     obtain ⟨sv2, rfl, hsv2⟩ := hq2
     obtain ⟨ps, ks, rfl⟩ := hsv2.slice
     simp only [push_cast, seval, reduceCtorEq]
     intro b4 hb4
     refine CallsV.useMs (Hw := [⟨b4, 0, .vec 31 27 1, x.cells (Value.slice ps x.slots.length ks)⟩]) (Hf := []) (insert0_ok (z := (x, Value.slice ps x.slots.length ks)) rfl) (fun e he => by rw [List.mem_singleton.1 he]; rfl) trivial ?_
     intro v2 N2 ho2
     refine ⟨ho2.wr.1, ho2.wr.2, fun hf2 => ?_⟩
     obtain ⟨p2, k2, rfl⟩ := ho2.slice
     simp only [push_cast, seval, reduceCtorEq]
     have hmm : marksOf (N2 ++ ⟨b3, 0, .cel 31, x.cells sv⟩ :: M2) = [] := by rw [marks_append, ho2.wr.2]; exact hg2.marks
     rw [dropM_eq hmm, ← dropM_eq (H := M2) hg2.marks]
     refine doneS (hg.trans hg2) ho2.wr.1 ho2.wr.2 (freshN_cons hf2) (SetO.rd _ _) ⟨_, rfl, [(x, Value.slice ps x.slots.length ks)], rfl, ho2, fun y hy => ?_⟩ ((List.Sublist.refl N2).append ((List.Sublist.refl _).cons _))
     rw [List.mem_singleton.1 hy]; exact hsv2
   · rw [hem] at hset
     rw [hset]
     simp only [push_cast, seval, reduceCtorEq]
     exact doneN [_] (N1 := []) (M1 := M1) hg trivial rfl trivial (SetO.rd _ _) ⟨_, rfl, StO.nil _ _⟩
 · have hbb := hf.1
   simp only [push_cast, seval, reduceCtorEq] at hbb
   simp only [push_cast, seval, reduceCtorEq, hbb]
   refine useV (Q := fun u => ∃ i, PlaceA L x.at_ i ∧ u = .tuple #[.int .i64 i, .bool (decide (∃ y, L[i]? = some y ∧ y.1.at_ = x.at_))]) (fun M2 hr2 he2 => (bsearch_ok (L := L) hr2.marks (by omega) (LiR.congr he2.symm (OutG.liR (.inr ⟨b, c, rfl, hc, hcl, rfl⟩) rfl rfl _)) hone hsrt).toK fun u N h => ?_) ?_
   · obtain ⟨i, hi, h1, h2⟩ := h
     exact ⟨⟨i, hi, h1⟩, h2⟩
   rintro u ⟨i, hi, rfl⟩
   have hLP : freshN [⟨b, 0, .vec 31 27 c, L.flatMap acC⟩, ⟨b3, 0, .cel 31, x.cells sv⟩] M1 := ⟨hbb.2.2, hL⟩
   by_cases his : ∃ y, L[i]? = some y ∧ y.1.at_ = x.at_
   · have hput := put_is hi hsrt his.choose_spec.1 his.choose_spec.2 (x := x) rfl
     obtain ⟨y, hy, hya⟩ := his
     have hsp : L = L.take i ++ y :: L.drop (i + 1) := by
      obtain ⟨h1, h2⟩ := List.getElem?_eq_some_iff.1 hy
      conv => lhs; rw [← List.take_append_drop i L, List.drop_eq_getElem_cons h1, h2]
     have hil := (List.getElem?_eq_some_iff.1 hy).1
     have hpl : (L.take i).length = i := by rw [List.length_take]; omega
     have hd : decide (∃ y, L[i]? = some y ∧ y.1.at_ = x.at_) = true := decide_eq_true ⟨y, hy, hya⟩
     have hpr : (L.drop (i + 1)).length = L.length - (i + 1) := List.length_drop
     obtain ⟨q, hq⟩ : ∃ q, q = L.length - (i + 1) := ⟨_, rfl⟩
     rw [← hq] at hpr
     have hq1 : i + q + 1 = L.length := by omega
     have hpl2 : ((L.take i).map (·.1)).length = i := by rw [List.length_map, hpl]
     have hpr2 : ((L.drop (i + 1)).map (·.1)).length = q := by rw [List.length_map, hpr]
     rw [hput] at hset
     simp only [push_cast, seval, reduceCtorEq, hd, hbb]
     refine useP [_, _] (fun M1 hr1 he1 => empty_ok (hx1.congr he1.symm) hr1.marks) hLP ?_
     cases hem : emptyA x
     · rw [hem, show (if false = true then ([] : List Ac) else [x]) = [x] from rfl, if_neg (by simp only [List.length_append, hpl2, hpr2, List.length_singleton]; omega)] at hset
       rw [hset]
       simp only [push_cast, seval, reduceCtorEq, hd, hbb]
       refine useL [⟨b, 0, .vec 31 27 c, L.flatMap acC⟩, ⟨b3, 0, .cel 31, x.cells sv⟩] (sown_ok hx1 (by have := hxr.len; omega)) (AcR.rd _) hg.marks hLP fun w2 M2 hg2 hL2 hq2 => ?_
       obtain ⟨sv2, rfl, hsv2⟩ := hq2
       obtain ⟨ps, ks, rfl⟩ := hsv2.slice
       have a1 : i * 27 + 27 ≤ (L.flatMap acC).length := by rw [setSeg_flat]; omega
       have a2 : List.take (i * 27) (L.flatMap acC) = (L.take i).flatMap acC := acC_takes L i
       have a3 : List.drop (i * 27 + 27) (L.flatMap acC) = (L.drop (i + 1)).flatMap acC := by rw [← acC_drops, Nat.succ_mul]
       have i1 : ¬ (200 : Int) < (L.length : Int) := by omega
       have i2 : ¬ 200 < L.length := by omega
       simp only [push_cast, seval, reduceCtorEq, hd, hbb, hil, a1, a2, a3, i1, i2]
       have e1 : (L.take i).flatMap acC ++ (x.cells (Value.slice ps x.slots.length ks) ++ (L.drop (i + 1)).flatMap acC) = (L.take i ++ (x, Value.slice ps x.slots.length ks) :: L.drop (i + 1)).flatMap acC := by
        rw [List.flatMap_append, List.flatMap_cons]; rfl
       have e2 : (L.take i ++ (x, Value.slice ps x.slots.length ks) :: L.drop (i + 1)).length = L.length := by
        rw [List.length_append, List.length_cons, hpl, hpr]; omega
       rw [e1]
       refine doneS (N1 := [⟨b, 0, .vec 31 27 c, (L.take i ++ (x, Value.slice ps x.slots.length ks) :: L.drop (i + 1)).flatMap acC⟩]) (M1 := M2) (hg.trans hg2) ⟨trivial, trivial⟩ rfl ⟨hL2.1, trivial⟩ (SetO.rd _ _) ⟨_, rfl, L.take i ++ (x, Value.slice ps x.slots.length ks) :: L.drop (i + 1), by rw [List.map_append]; rfl, ?_, fun y hy => ?_⟩ (((List.Sublist.refl _).cons _).cons_cons _)
       · rw [e2]
         exact .inr ⟨b, c, rfl, hc, by rw [setSeg_flat, e2], rfl⟩
       · rcases List.mem_append.1 hy with hy | hy
         · exact (hLs y (List.mem_of_mem_take hy)).ext hg2.ext
         · rcases List.mem_cons.1 hy with rfl | hy
           · exact hsv2
           · exact (hLs y (List.mem_of_mem_drop hy)).ext hg2.ext
     · rw [hem, show (if true = true then ([] : List Ac) else [x]) = [] from rfl, List.nil_append, if_neg (by simp only [List.length_append, hpl2, hpr2]; omega)] at hset
       rw [hset]
       simp only [push_cast, seval, reduceCtorEq, hd, hbb, wrap_i64' (show -9223372036854775808 ≤ (i : Int) + 1 ∧ (i : Int) + 1 ≤ 9223372036854775807 by omega)]
       have hdel := delete_ok (P := L.take i) (R := L.drop (i + 1)) (x := y) (b := b) (c := c) (n := L.length) (p := i) (q := q) hpl hpr (by omega) hc (by rw [← hsp]; exact hone) (by omega)
       rw [← hsp] at hdel
       refine CallsV.useMs (Hw := [⟨b, 0, .vec 31 27 c, L.flatMap acC⟩]) (Hf := []) hdel (fun e he => by rw [List.mem_singleton.1 he]; rfl) trivial ?_
       rintro v2 N2 ⟨rfl, rfl⟩
       refine ⟨⟨trivial, trivial⟩, rfl, fun hf2 => ?_⟩
       have i1 : ¬ (200 : Int) < (i : Int) + (q : Int) := by omega
       have i2 : ¬ 200 < i + q := by omega
       simp only [push_cast, seval, reduceCtorEq, i1, i2]
       refine doneS (N1 := [⟨b, 0, .vec 31 27 c, (L.take i ++ L.drop (i + 1)).flatMap acC⟩]) (M1 := M1) hg ⟨trivial, trivial⟩ rfl (freshN_cons hf2) (SetO.rd _ _) ⟨_, rfl, L.take i ++ L.drop (i + 1), List.map_append, ?_, fun y hy => ?_⟩ (((List.Sublist.refl _).cons _).cons_cons _)
       · exact .inr ⟨b, c, by rw [List.length_append, hpl, hpr], by rw [List.length_append, hpl, hpr]; omega, by rw [setSeg_flat], rfl⟩
       · rcases List.mem_append.1 hy with hy | hy
         · exact hLs y (List.mem_of_mem_take hy)
         · exact hLs y (List.mem_of_mem_drop hy)
   · have hput := put_not hi hsrt his (x := x) rfl
     rw [hput] at hset
     have hsp : L = L.take i ++ L.drop i := (List.take_append_drop i L).symm
     have hpl : (L.take i).length = i := by rw [List.length_take]; have := hi.le; omega
     have hpr : (L.drop i).length = L.length - i := List.length_drop
     have hd : decide (∃ y, L[i]? = some y ∧ y.1.at_ = x.at_) = false := decide_eq_false his
     simp only [push_cast, seval, reduceCtorEq, hd, hbb]
     refine useP [_, _] (fun M1 hr1 he1 => empty_ok (hx1.congr he1.symm) hr1.marks) hLP ?_
     obtain ⟨q, hq⟩ : ∃ q, q = L.length - i := ⟨_, rfl⟩
     rw [← hq] at hpr
     have hile := hi.le
     have hq1 : i + q = L.length := by omega
     have hpl2 : ((L.take i).map (·.1)).length = i := by rw [List.length_map, hpl]
     have hpr2 : ((L.drop i).map (·.1)).length = q := by rw [List.length_map, hpr]
     cases hem : emptyA x
     · rw [hem, show (if false = true then ([] : List Ac) else [x]) = [x] from rfl] at hset
       simp only [push_cast, seval, reduceCtorEq, hd, hbb]
       refine useL [⟨b, 0, .vec 31 27 c, L.flatMap acC⟩, ⟨b3, 0, .cel 31, x.cells sv⟩] (sown_ok hx1 (by have := hxr.len; omega)) (AcR.rd _) hg.marks hLP fun w2 M2 hg2 hL2 hq2 => ?_
       obtain ⟨sv2, rfl, hsv2⟩ := hq2
       obtain ⟨ps, ks, rfl⟩ := hsv2.slice
       simp only [push_cast, seval, reduceCtorEq, hd, hbb]
       intro b4 hb4
       have hins := insert_ok (P := L.take i) (R := L.drop i) (z := (x, Value.slice ps x.slots.length ks)) (b := b) (b2 := b4) (c := c) (n := L.length) (p := i) (q := q) (k2 := 1) hpl hpr hq1.symm hc (fun y hy => by
        rcases List.mem_append.1 hy with hy | hy
        · exact hone y (List.mem_of_mem_take hy)
        · rcases List.mem_cons.1 hy with rfl | hy
          · rfl
          · exact hone y (List.mem_of_mem_drop hy)) (by omega) (Ne.symm hb4.1)
       rw [← hsp] at hins
       refine CallsV.swap ?_ rfl
       refine CallsV.useMs (Hw := [⟨b, 0, .vec 31 27 c, L.flatMap acC⟩, ⟨b4, 0, .vec 31 27 1, acC (x, Value.slice ps x.slots.length ks)⟩]) (Hf := []) hins (fun e he => by
        rcases List.mem_cons.1 he with rfl | he
        · rfl
        · rw [List.mem_singleton.1 he]; rfl) trivial ?_
       intro v2 N2 ho2
       refine ⟨ho2.wr.1, ho2.wr.2, fun hf2 => ?_⟩
       obtain ⟨p2, k2, rfl⟩ := ho2.slice
       have hmm : marksOf (N2 ++ ⟨b3, 0, .cel 31, x.cells sv⟩ :: M2) = [] := by rw [marks_append, ho2.wr.2]; exact hg2.marks
       have e2 : (L.take i ++ (x, Value.slice ps x.slots.length ks) :: L.drop i).length = L.length + 1 := by
        rw [List.length_append, List.length_cons, hpl, hpr]; omega
       have hsub : (N2 ++ dropM M2).Sublist (dropM (N2 ++ ⟨b3, 0, .cel 31, x.cells sv⟩ :: M2)) := by
        rw [dropM_eq hmm, dropM_eq hg2.marks]
        exact (List.Sublist.refl N2).append ((List.Sublist.refl _).cons _)
       by_cases h2 : 200 < L.length + 1
       · rw [if_pos (by simp only [List.length_append, hpl2, hpr2, List.length_singleton]; omega)] at hset
         rw [hset]
         have i1 : (200 : Int) < (L.length : Int) + 1 := by omega
         simp only [push_cast, seval, reduceCtorEq, i1, h2]
         exact doneS (N1 := []) (M1 := M2) (hg.trans hg2) trivial rfl trivial (SetO.rd _ _) ⟨_, rfl, StO.nil _ _⟩ ((List.sublist_append_right N2 _).trans hsub)
       · rw [if_neg (by simp only [List.length_append, hpl2, hpr2, List.length_singleton]; omega)] at hset
         rw [hset]
         have i1 : ¬ (200 : Int) < (L.length : Int) + 1 := by omega
         simp only [push_cast, seval, reduceCtorEq, i1, h2]
         refine doneS (N1 := N2) (M1 := M2) (hg.trans hg2) ho2.wr.1 ho2.wr.2 (freshN_cons hf2) (SetO.rd _ _) ⟨_, rfl, L.take i ++ (x, Value.slice ps x.slots.length ks) :: L.drop i, by rw [List.map_append]; rfl, by rw [e2]; exact ho2, fun y hy => ?_⟩ hsub
         rcases List.mem_append.1 hy with hy | hy
         · exact (hLs y (List.mem_of_mem_take hy)).ext hg2.ext
         · rcases List.mem_cons.1 hy with rfl | hy
           · exact hsv2
           · exact (hLs y (List.mem_of_mem_drop hy)).ext hg2.ext
     · rw [hem, show (if true = true then ([] : List Ac) else [x]) = [] from rfl, List.nil_append, if_neg (by simp only [List.length_append, hpl2, hpr2]; omega)] at hset
       rw [← List.map_append, ← hsp] at hset
       rw [hset]
       have i1 : ¬ (200 : Int) < (L.length : Int) := by omega
       have i2 : ¬ 200 < L.length := by omega
       simp only [push_cast, seval, reduceCtorEq, hd, hbb, i1, i2]
       exact doneS (N1 := [⟨b, 0, .vec 31 27 c, L.flatMap acC⟩]) (M1 := M1) hg ⟨trivial, trivial⟩ rfl ⟨hLP.1, trivial⟩ (SetO.rd _ _) ⟨_, rfl, L, rfl, .inr ⟨b, c, rfl, hc, hcl, rfl⟩, hLs⟩ (((List.Sublist.refl _).cons _).cons_cons _)
end Go.Proofs.YtpcjmmdgopihcaaGreatDoor
