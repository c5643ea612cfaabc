/- EvS: contracts over memory that is only read and not known in detail: 'roM', 'Ext', 'useL'; lists in such memory: 'LiR'. -/
import Derived.Test.YtfioapldbajpmaaDoorE3
set_option linter.unusedSimpArgs false
set_option linter.unusedVariables false
namespace Go.Ev
theorem cellsAt_findS {H : Hp} {b o n : Nat} {cs : List Value} (h : cellsAt H b o n = some cs) : ∃ e, findE H b = some e := by
  unfold cellsAt at h
  cases hf : findE H b with
  | none => rw [hf] at h; cases h
  | some e => exact ⟨e, rfl⟩
/-- H, as memory that is only read; of each block the first entry -/
def roAll : Hp → Hp
  | [] => []
  | e :: r => { e with kind := .ro } :: (roAll r).filter (fun x => x.blk != e.blk)
theorem findE_filter (b c : Nat) (h : b ≠ c) : ∀ H : Hp, findE (H.filter fun x => x.blk != c) b = findE H b
  | [] => rfl
  | e :: r => by
    rw [List.filter_cons]
    by_cases hc : e.blk = c
    · have : (e.blk != c) = false := by simp [hc]
      rw [this, if_neg (by simp), findE_filter b c h r, findE, if_neg (by rw [hc]; exact h)]
    · have : (e.blk != c) = true := by simp [hc]
      rw [this, if_pos rfl, findE, findE, findE_filter b c h r]
theorem findE_roAll (b : Nat) : ∀ H : Hp, findE (roAll H) b = (findE H b).map fun e => { e with kind := .ro }
  | [] => rfl
  | e :: r => by
    unfold roAll
    rw [findE, findE]
    by_cases h : b = e.blk
    · rw [if_pos h, if_pos h]; rfl
    · rw [if_neg h, if_neg h, findE_filter b e.blk h, findE_roAll b r]
theorem cellsAt_roAll (H : Hp) : cellsAt (roAll H) = cellsAt H := by
  funext b o n
  unfold cellsAt
  rw [findE_roAll]
  cases findE H b <;> rfl
theorem roAll_mem : ∀ {H : Hp} {e : Ent}, e ∈ roAll H → e.kind = .ro ∧ findE (roAll H) e.blk = some e
  | [], e, h => by cases h
  | x :: r, e, h => by
    unfold roAll at h ⊢
    rcases List.mem_cons.1 h with rfl | h
    · exact ⟨rfl, by simp [findE]⟩
    · obtain ⟨h1, h2⟩ := List.mem_filter.1 h
      obtain ⟨h3, h4⟩ := roAll_mem h1
      have hne : e.blk ≠ x.blk := by simpa using h2
      refine ⟨h3, ?_⟩
      rw [findE, if_neg hne, findE_filter _ _ hne, h4]
theorem derE_of {H : Hp} : ∀ {L : Hp}, (∀ e ∈ L, e.kind = .ro ∧ findE H e.blk = some e) → derE H L
  | [], _ => trivial
  | e :: r, h => by
    obtain ⟨h1, h2⟩ := h e (by simp)
    refine ⟨⟨h1, ?_⟩, derE_of fun x hx => h x (by simp [hx])⟩
    unfold cellsAt
    rw [h2]
    simp [subL]
theorem derE_congr {H H' : Hp} (h : cellsAt H = cellsAt H') : ∀ {L : Hp}, derE H L → derE H' L
  | [], _ => trivial
  | e :: r, hd => ⟨⟨hd.1.1, by rw [← h]; exact hd.1.2⟩, derE_congr h hd.2⟩
structure roM (M : Hp) : Prop where
  der : derE M M
  marks : marksOf M = []
theorem roAll_ro (H : Hp) : roM (roAll H) := by
  have hk : ∀ {L : Hp}, (∀ e ∈ L, e.kind = .ro) → marksOf L = [] := by
    intro L
    induction L with
    | nil => intro _; rfl
    | cons x r ih => intro h; simp only [marksOf, h x (by simp)]; exact ih fun e he => h e (by simp [he])
  exact ⟨derE_of fun e he => roAll_mem he, hk fun e he => (roAll_mem he).1⟩
theorem roM.nil : roM [] := ⟨trivial, rfl⟩
/-- H' has all that can be read in H -/
structure Ext (H H' : Hp) : Prop where
  marks : marksOf H' = []
  keep : ∀ b o n cs, cellsAt H b o n = some cs → cellsAt H' b o n = some cs
theorem Ext.trans {H H' H'' : Hp} (h : Ext H H') (h' : Ext H' H'') : Ext H H'' := ⟨h'.marks, fun b o n cs hc => h'.keep _ _ _ _ (h.keep _ _ _ _ hc)⟩
theorem Ext.refl {H : Hp} (hm : marksOf H = []) : Ext H H := ⟨hm, fun _ _ _ _ h => h⟩
theorem fresh_findS {b : Nat} : ∀ {H : Hp}, fresh b H → ∀ {c : Nat} {e : Ent}, findE H c = some e → ¬ b = c ∧ ¬ c = b
  | [], _, _, _, h => by simp [findE] at h
  | x :: r, hf, c, e, h => by
    simp only [findE] at h
    by_cases hc : c = x.blk
    · subst hc; exact ⟨hf.1, hf.2.1⟩
    · rw [if_neg hc] at h; exact fresh_findS hf.2.2 h
theorem fresh_appS {b : Nat} : ∀ {A B : Hp}, fresh b A → fresh b B → fresh b (A ++ B)
  | [], _, _, h => h
  | e :: r, B, h, h' => ⟨h.1, h.2.1, fresh_appS h.2.2 h'⟩
theorem fresh_app_iff {b : Nat} : ∀ {A B : Hp}, fresh b (A ++ B) ↔ fresh b A ∧ fresh b B
  | [], _ => ⟨fun h => ⟨trivial, h⟩, fun h => h.2⟩
  | e :: r, B => by
    show (b ≠ e.blk ∧ e.blk ≠ b ∧ fresh b (r ++ B)) ↔ _
    rw [fresh_app_iff]
    exact ⟨fun ⟨h1, h2, h3, h4⟩ => ⟨⟨h1, h2, h3⟩, h4⟩, fun ⟨⟨h1, h2, h3⟩, h4⟩ => ⟨h1, h2, h3, h4⟩⟩
theorem Ext.cons {H : Hp} {e : Ent} (hm : marksOf H = []) (he : marksOf [e] = []) (hf : fresh e.blk H) : Ext H (e :: H) := by
  refine ⟨by rw [show e :: H = [e] ++ H from rfl, marks_append, he, hm]; rfl, fun b o n cs h => ?_⟩
  obtain ⟨e', he'⟩ := cellsAt_findS h
  have := (fresh_findS hf he').2
  unfold cellsAt at h ⊢
  simp only [findE, if_neg this]
  exact h
theorem findE_app {b : Nat} : ∀ {A B : Hp}, findE (A ++ B) b = (match findE A b with | some e => some e | none => findE B b)
  | [], _ => rfl
  | e :: r, B => by
    simp only [List.cons_append, findE]
    split
    · rfl
    · exact findE_app
/-- what is read of new memory and of older one, whichever stands first -/
theorem cellsAt_swap {N M : Hp} (hf : freshN N M) : cellsAt (N ++ M) = cellsAt (M ++ N) := by
  have hne : ∀ {N : Hp}, freshN N M → ∀ {b : Nat} {e e' : Ent}, findE N b = some e → findE M b = some e' → False := by
    intro N
    induction N with
    | nil => intro _ b e e' h; simp [findE] at h
    | cons x r ih =>
      intro hf b e e' h h'
      simp only [findE] at h
      by_cases hb : b = x.blk
      · exact (fresh_findS hf.1 h').2 hb
      · rw [if_neg hb] at h; exact ih hf.2 h h'
  funext b o n
  unfold cellsAt
  rw [findE_app, findE_app]
  cases h1 : findE N b with
  | none => cases h2 : findE M b <;> rfl
  | some e => cases h2 : findE M b with
    | none => rfl
    | some e' => exact (hne hf h1 h2).elim
theorem Ext.app {M N : Hp} (hm : marksOf M = []) (hn : marksOf N = []) : Ext M (M ++ N) := by
  refine ⟨by rw [marks_append, hm, hn]; rfl, fun b o n cs h => ?_⟩
  obtain ⟨e, he⟩ := cellsAt_findS h
  unfold cellsAt at h ⊢
  rw [findE_app, he]
  rw [he] at h
  exact h
theorem freshN_mono {N A B : Hp} (h : freshN N (A ++ B)) : freshN N A ∧ freshN N B := by
  induction N with
  | nil => exact ⟨trivial, trivial⟩
  | cons x r ih =>
    obtain ⟨h1, h2⟩ := fresh_app_iff.1 h.1
    exact ⟨⟨h1, (ih h.2).1⟩, ⟨h2, (ih h.2).2⟩⟩
theorem freshN_sym : ∀ {L N : Hp}, freshN N L → freshN L N := by
  intro L N h
  have hne : ∀ e ∈ N, ∀ x ∈ L, x.blk ≠ e.blk ∧ e.blk ≠ x.blk := by
    induction N with
    | nil => intro e he; cases he
    | cons y r ih =>
      intro e he x hx
      rcases List.mem_cons.1 he with rfl | he
      · have := fresh_ne h.1 x hx; exact ⟨this, Ne.symm this⟩
      · exact ih h.2 e he x hx
  exact freshN_of fun e he x hx => (hne x hx e he).2
theorem freshN_comb : ∀ {L A B : Hp}, freshN L A → freshN L B → freshN L (A ++ B)
  | [], _, _, _, _ => trivial
  | e :: r, A, B, h, h' => ⟨fresh_appS h.1 h'.1, freshN_comb h.2 h'.2⟩
theorem CallsV.toK {P : Program} {g : FuncId} {args : List Value} {M : Hp} {K K' : Value → Hp → Prop} (hc : CallsV P g args M K) (h : ∀ v N, K v N → K' v N) : CallsV P g args M K' := by
  refine ⟨hc.1, fun w0 mu w hs => (hc.2 w0 mu w hs).mono ?_⟩
  rintro e w' ⟨v, H', h1, h2, h3⟩
  exact ⟨v, H', h1, h v H' h2, h3⟩
/-- the answer of a contract over memory M0 that is only read: new memory, and what can be read with it -/
def NewK (M0 : Hp) (Q : Value → Hp → Prop) : Value → Hp → Prop := fun v N => allWr N ∧ marksOf N = [] ∧ (freshN N M0 → Q v (N ++ M0))
def RdOnly (Q : Value → Hp → Prop) : Prop := ∀ v A B, cellsAt A = cellsAt B → Q v A → Q v B
/-- the contract of a function: over whatever memory that is only read -/
def CallsR (P : Program) (g : FuncId) (args : List Value) (M : Hp) (Q : Value → Hp → Prop) : Prop :=
  ∀ M0, roM M0 → cellsAt M0 = cellsAt M → CallsV P g args M0 (NewK M0 Q)
theorem findE_freshS {b : Nat} : ∀ {H : Hp}, fresh b H → findE H b = none
  | [], _ => rfl
  | e :: r, h => by rw [findE, if_neg h.1]; exact findE_freshS h.2.2
theorem freshN_iff {N H : Hp} : freshN N H ↔ ∀ e ∈ N, ∀ x ∈ H, x.blk ≠ e.blk := by
  constructor
  · intro h
    induction N with
    | nil => intro e he; cases he
    | cons y r ih =>
      intro e he x hx
      rcases List.mem_cons.1 he with rfl | he
      · exact fresh_ne h.1 x hx
      · exact ih h.2 e he x hx
  · exact freshN_of
theorem CallsV.perm {P : Program} {g : FuncId} {args : List Value} {H : Hp} {K K' : Value → Hp → Prop} (hc : CallsV P g args H K) (hk : ∀ v H', K v H' → ∃ H'', H''.Perm H' ∧ marksOf H'' = marksOf H' ∧ K' v H'') : CallsV P g args H K' := by
  refine ⟨hc.1, fun w0 mu w hs => (hc.2 w0 mu w hs).mono ?_⟩
  rintro e w' ⟨v, H', rfl, h1, h2, h3⟩
  obtain ⟨H'', h4, h5, h6⟩ := hk v H' h1
  exact ⟨v, H'', rfl, h6, h2.perm h4.symm, h5.trans h3⟩
/-- M' is M, and new memory behind it -/
def Gr (M M' : Hp) : Prop := marksOf M = [] ∧ ∃ N, M' = M ++ N ∧ allWr N ∧ marksOf N = []
theorem allWr_app : ∀ {A B : Hp}, allWr A → allWr B → allWr (A ++ B)
  | [], _, _, h => h
  | _ :: _, _, h, h' => ⟨h.1, allWr_app h.2 h'⟩
theorem Gr.refl {M : Hp} (h : marksOf M = []) : Gr M M := ⟨h, [], by simp, trivial, rfl⟩
theorem Gr.trans {M M' M'' : Hp} (h : Gr M M') (h' : Gr M' M'') : Gr M M'' := by
  obtain ⟨h1, N, rfl, h2, h3⟩ := h
  obtain ⟨_, N', rfl, h4, h5⟩ := h'
  exact ⟨h1, N ++ N', by rw [List.append_assoc], allWr_app h2 h4, by rw [marks_append, h3, h5]; rfl⟩
theorem Gr.ext {M M' : Hp} (h : Gr M M') : Ext M M' := by
  obtain ⟨h1, N, rfl, _, h3⟩ := h
  exact Ext.app h1 h3
theorem Gr.marks {M M' : Hp} (h : Gr M M') : marksOf M' = [] := h.ext.marks
/-- what is left at a function's end -/
theorem doneK {M M1 L : Hp} {Q : Value → Hp → Prop} {v : Value} (hg : Gr M M1) (hL : marksOf L = []) (hQ : RdOnly Q) (hq : Q v M1) : ∃ H', H'.Sublist (dropM (L ++ M1)) ∧ NewK M Q v H' := by
  obtain ⟨h1, N, rfl, h2, h3⟩ := hg
  refine ⟨N, ?_, h2, h3, fun hf => hQ v _ _ (cellsAt_swap hf).symm hq⟩
  rw [dropM_eq (by simp only [marks_append, hL, h1, h3]; rfl), ← List.append_assoc]
  exact List.sublist_append_right _ _
theorem doneK2 {M M1 : Hp} (L : Hp) {Q : Value → Hp → Prop} {v : Value} (hg : Gr M M1) (hQ : RdOnly Q) (hq : Q v M1) : ∃ H', H'.Sublist (L ++ dropM M1) ∧ NewK M Q v H' := by
  obtain ⟨h1, N, rfl, h2, h3⟩ := hg
  refine ⟨N, ?_, h2, h3, fun hf => hQ v _ _ (cellsAt_swap hf).symm hq⟩
  rw [dropM_eq (by rw [marks_append, h1, h3]; rfl), ← List.append_assoc]
  exact List.sublist_append_right _ _
theorem derE_behind {L M : Hp} (hL : freshN L M) : derE (L ++ M) (roAll M) := by
  have hl : ∀ {R : Hp}, (∀ e ∈ R, e ∈ roAll M) → derE (L ++ M) R := by
    intro R
    induction R with
    | nil => intro _; trivial
    | cons e r ih =>
      intro h
      obtain ⟨h1, h2⟩ := roAll_mem (h e (by simp))
      refine ⟨⟨h1, ?_⟩, ih fun x hx => h x (by simp [hx])⟩
      rw [findE_roAll] at h2
      obtain ⟨e0, h3, h4⟩ := Option.map_eq_some_iff.1 h2
      have hLn : findE L e.blk = none := by
        cases hL0 : findE L e.blk with
        | none => rfl
        | some x =>
          obtain ⟨hx1, hx2⟩ := findE_mem hL0
          obtain ⟨hy1, hy2⟩ := findE_mem h3
          exact absurd (hy2.trans hx2.symm) (freshN_iff.1 hL x hx1 e0 hy1)
      unfold cellsAt
      rw [findE_app, hLn, h3, ← h4]
      simp [subL]
  exact hl fun _ h => h
/-- **A contract, used where there are local entries in front of memory that is not known in detail.** -/
theorem useL {P : Program} {g : FuncId} {args : List Value} (L : Hp) {M : Hp} {Q : Value → Hp → Prop} {K' : Value → Hp → Prop} (hc : CallsR P g args M Q) (hQ : RdOnly Q) (hm : marksOf M = []) (hL : freshN L M)
    (hk : ∀ v M', Gr M M' → freshN L M' → Q v M' → K' v (L ++ M')) : CallsV P g args (L ++ M) K' := by
  have hc0 := hc (roAll M) (roAll_ro M) (cellsAt_roAll M)
  have hder := derE_behind hL
  refine (hc0.use hder (K' := fun v H' => ∃ N, H' = N ++ (L ++ M) ∧ marksOf N = [] ∧ K' v (L ++ (M ++ N))) ?_).perm ?_
  · rintro v N ⟨h1, h2, h3⟩
    refine ⟨h1, h2, fun hf => ⟨N, rfl, h2, ?_⟩⟩
    have hfL := (freshN_mono hf).1
    have hfM := (freshN_mono hf).2
    have hf0 : freshN N (roAll M) := freshN_iff.2 fun e he x hx => by
      have h2 := (roAll_mem hx).2
      rw [findE_roAll] at h2
      obtain ⟨e0, h3, h4⟩ := Option.map_eq_some_iff.1 h2
      obtain ⟨hy1, hy2⟩ := findE_mem h3
      rw [← hy2]
      exact freshN_iff.1 hfM e he e0 hy1
    refine hk v (M ++ N) ⟨hm, N, rfl, h1, h2⟩ (freshN_comb hL (freshN_sym hfL)) (hQ _ _ _ ?_ (h3 hf0))
    rw [cellsAt_swap hf0]
    funext b o n
    have hh := congrFun (congrFun (congrFun (cellsAt_roAll M) b) o) n
    unfold cellsAt at hh ⊢
    rw [findE_app, findE_app]
    rw [findE_roAll] at hh ⊢
    cases hfm : findE M b with
    | none => rfl
    | some e => rw [hfm] at hh; exact hh
  · rintro v H' ⟨N, rfl, hN, hk'⟩
    refine ⟨L ++ (M ++ N), ?_, ?_, hk'⟩
    · rw [← List.append_assoc]; exact List.perm_append_comm
    · simp only [marks_append, hN, List.append_nil, List.nil_append]
/-- the same where the answer is a plain value -/
theorem useP {P : Program} {g : FuncId} {args : List Value} (L : Hp) {M : Hp} {v : Value} {K' : Value → Hp → Prop} (hc : ∀ M0, roM M0 → cellsAt M0 = cellsAt M → CallsV P g args M0 (Ret0 v)) (hL : freshN L M)
    (hk : K' v (L ++ M)) : CallsV P g args (L ++ M) K' :=
  (hc (roAll M) (roAll_ro M) (cellsAt_roAll M)).pure (derE_behind hL) hk
/-! ### lists -/
/-- v is a slice of the things l, as can be read in H; each has s cells -/
def LiR {α : Type} (c : α → List Value) (s : Nat) (H : Hp) (l : List α) (v : Value) : Prop :=
  ∃ p k, v = .slice p l.length k ∧ (l = [] ∨ ∃ b o, p = some ⟨b, o, none⟩ ∧ cellsAt H b o (l.length * s) = some (l.flatMap c))
section
variable {α : Type} {c : α → List Value} {s : Nat} {H : Hp} {l : List α} {v : Value}
theorem LiR.ext {H' : Hp} (h : Ext H H') (hl : LiR c s H l v) : LiR c s H' l v := by
  obtain ⟨p, k, rfl, h1 | ⟨b, o, rfl, h1⟩⟩ := hl
  · exact ⟨p, k, rfl, .inl h1⟩
  · exact ⟨_, k, rfl, .inr ⟨b, o, rfl, h.keep _ _ _ _ h1⟩⟩
theorem LiR.congr {H' : Hp} (h : cellsAt H = cellsAt H') (hl : LiR c s H l v) : LiR c s H' l v := by
  obtain ⟨p, k, rfl, h1 | ⟨b, o, rfl, h1⟩⟩ := hl
  · exact ⟨p, k, rfl, .inl h1⟩
  · exact ⟨_, k, rfl, .inr ⟨b, o, rfl, by rw [← h]; exact h1⟩⟩
theorem LiR.rd (l : List α) : RdOnly (fun v H => LiR c s H l v) := fun _ _ _ h hl => hl.congr h
theorem LiR.nil (H : Hp) (k : Nat) : LiR c s H [] (.slice none 0 k) := ⟨none, k, rfl, .inl rfl⟩
theorem flatMap_len (hs : ∀ x, (c x).length = s) : ∀ l : List α, (l.flatMap c).length = l.length * s
  | [] => by simp
  | x :: r => by rw [List.flatMap_cons, List.length_append, hs, flatMap_len hs r, List.length_cons, Nat.succ_mul, Nat.add_comm]
theorem flatMap_at (hs : ∀ x, (c x).length = s) : ∀ {l : List α} {i : Nat} {x : α}, l[i]? = some x → ∀ {q n : Nat}, q + n ≤ s → List.take n (List.drop (i * s + q) (l.flatMap c)) = List.take n (List.drop q (c x))
  | [], i, x, h, _, _, _ => by simp at h
  | y :: r, 0, x, h, q, n, hq => by
    simp only [List.getElem?_cons_zero, Option.some.injEq] at h
    subst h
    rw [Nat.zero_mul, Nat.zero_add, List.flatMap_cons, List.drop_append_of_le_length (by rw [hs]; omega), List.take_append_of_le_length (by rw [List.length_drop, hs]; omega)]
  | y :: r, i + 1, x, h, q, n, hq => by
    rw [List.flatMap_cons, Nat.succ_mul, show i * s + s + q = s + (i * s + q) by omega, ← List.drop_drop, show List.drop s (c y ++ r.flatMap c) = r.flatMap c by rw [← hs y]; exact List.drop_left ..]
    exact flatMap_at hs (l := r) (by simpa using h) hq
/-- such a list, opened: where its cells lie -/
theorem LiR.open (hs : ∀ x, (c x).length = s) (h0 : 0 < s) (hl : LiR c s H l v) : ∃ p k, v = .slice p l.length k ∧ (l = [] ∨ ∃ b f d kd cs, p = some ⟨b, f + d, none⟩ ∧ findE H b = some ⟨b, f, kd, cs⟩ ∧
    (∀ i x, l[i]? = some x → ∀ q n, q + n ≤ s → d + i * s + q + n ≤ cs.length ∧ List.take n (List.drop (d + i * s + q) cs) = List.take n (List.drop q (c x))) ∧ d + l.length * s ≤ cs.length ∧ List.take (l.length * s) (List.drop d cs) = l.flatMap c) := by
  obtain ⟨p, k, rfl, h1 | ⟨b, o, rfl, h1⟩⟩ := hl
  · exact ⟨p, k, rfl, .inl h1⟩
  · refine ⟨_, k, rfl, .inr ?_⟩
    obtain ⟨⟨b', f, kd, cs⟩, he⟩ := cellsAt_findS h1
    obtain rfl : b' = b := (findE_mem he).2
    unfold cellsAt at h1
    rw [he] at h1
    dsimp only at h1
    split at h1
    case isFalse => cases h1
    rename_i hle
    obtain ⟨d, rfl⟩ : ∃ d, o = f + d := ⟨o - f, by omega⟩
    rw [Nat.add_sub_cancel_left] at h1
    unfold subL at h1
    split at h1
    case isFalse => cases h1
    rename_i hlen
    have h2 := Option.some.inj h1
    refine ⟨b', f, d, kd, cs, rfl, he, fun i x hx q n hq => ?_, hlen, h2⟩
    have hi := (List.getElem?_eq_some_iff.1 hx).1
    have hm : i * s + s ≤ l.length * s := by rw [← Nat.succ_mul]; exact Nat.mul_le_mul_right _ hi
    refine ⟨by omega, ?_⟩
    rw [← flatMap_at hs hx hq, ← h2, List.drop_take, List.take_take, List.drop_drop, Nat.min_eq_left (by omega), Nat.add_assoc]
/-- a list that has memory of its own, put behind what there is -/
theorem OutC.liR {e n : Nat} {cs : List Value} {N : Hp} (ho : OutC e s cs n v N) (hn : n = l.length) (hc : cs = l.flatMap c) (X : Hp) : LiR c s (N ++ X) l v := by
  subst hn hc
  obtain ⟨p, k, hv, h⟩ := ho.at X
  refine ⟨p, k, hv, ?_⟩
  rcases h with h | ⟨b, hb, h⟩
  · exact .inl (List.length_eq_zero_iff.1 h)
  · exact .inr ⟨b, 0, hb, h⟩
end
end Go.Ev
