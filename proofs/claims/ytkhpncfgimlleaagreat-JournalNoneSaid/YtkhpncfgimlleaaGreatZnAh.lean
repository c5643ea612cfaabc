/- Texts of this claim, merged by program: EvS Ti Ra Tj Lb Lg Tk. -/
import Derived.Test.YtkhpncfgimlleaaGreatZnAc
import Derived.Test.YtkhpncfgimlleaaGreatZnAg
set_option linter.unusedSimpArgs false
set_option linter.unusedVariables false
namespace Go.Ev
theorem cellsAt_findS {H : Hp} {b o n : Nat} {cs : List Value} (h : cellsAt H b o n = some cs) : ∃ e, findE H b = some e := by
  unfold cellsAt at h
  cases hf : findE H b with
  | none => rw [hf] at h; cases h
  | some e => exact ⟨e, rfl⟩
def roAll : Hp → Hp
  | [] => []
  | e :: r => { e with kind := .ro } :: (roAll r).filter (fun x => x.blk != e.blk)
theorem findE_filter (b c : Nat) (h : b ≠ c) : ∀ H : Hp, findE (H.filter fun x => x.blk != c) b = findE H b
  | [] => rfl
  | e :: r => by
    rw [List.filter_cons]
    by_cases hc : e.blk = c
    · have : (e.blk != c) = false := by simp [hc]
      rw [this, if_neg (by simp), findE_filter b c h r, findE, if_neg (by rw [hc]; exact h)]
    · have : (e.blk != c) = true := by simp [hc]
      rw [this, if_pos rfl, findE, findE, findE_filter b c h r]
theorem findE_roAll (b : Nat) : ∀ H : Hp, findE (roAll H) b = (findE H b).map fun e => { e with kind := .ro }
  | [] => rfl
  | e :: r => by
    unfold roAll
    rw [findE, findE]
    by_cases h : b = e.blk
    · rw [if_pos h, if_pos h]; rfl
    · rw [if_neg h, if_neg h, findE_filter b e.blk h, findE_roAll b r]
theorem cellsAt_roAll (H : Hp) : cellsAt (roAll H) = cellsAt H := by
  funext b o n
  unfold cellsAt
  rw [findE_roAll]
  cases findE H b <;> rfl
theorem roAll_mem : ∀ {H : Hp} {e : Ent}, e ∈ roAll H → e.kind = .ro ∧ findE (roAll H) e.blk = some e
  | [], e, h => by cases h
  | x :: r, e, h => by
    unfold roAll at h ⊢
    rcases List.mem_cons.1 h with rfl | h
    · exact ⟨rfl, by simp [findE]⟩
    · obtain ⟨h1, h2⟩ := List.mem_filter.1 h
      obtain ⟨h3, h4⟩ := roAll_mem h1
      have hne : e.blk ≠ x.blk := by simpa using h2
      refine ⟨h3, ?_⟩
      rw [findE, if_neg hne, findE_filter _ _ hne, h4]
theorem derE_of {H : Hp} : ∀ {L : Hp}, (∀ e ∈ L, e.kind = .ro ∧ findE H e.blk = some e) → derE H L
  | [], _ => trivial
  | e :: r, h => by
    obtain ⟨h1, h2⟩ := h e (by simp)
    refine ⟨⟨h1, ?_⟩, derE_of fun x hx => h x (by simp [hx])⟩
    unfold cellsAt
    rw [h2]
    simp [subL]
structure roM (M : Hp) : Prop where
  der : derE M M
  marks : marksOf M = []
theorem roAll_ro (H : Hp) : roM (roAll H) := by
  have hk : ∀ {L : Hp}, (∀ e ∈ L, e.kind = .ro) → marksOf L = [] := by
    intro L
    induction L with
    | nil => intro _; rfl
    | cons x r ih => intro h; simp only [marksOf, h x (by simp)]; exact ih fun e he => h e (by simp [he])
  exact ⟨derE_of fun e he => roAll_mem he, hk fun e he => (roAll_mem he).1⟩
structure Ext (H H' : Hp) : Prop where
  marks : marksOf H' = []
  keep : ∀ b o n cs, cellsAt H b o n = some cs → cellsAt H' b o n = some cs
theorem fresh_findS {b : Nat} : ∀ {H : Hp}, fresh b H → ∀ {c : Nat} {e : Ent}, findE H c = some e → ¬ b = c ∧ ¬ c = b
  | [], _, _, _, h => by simp [findE] at h
  | x :: r, hf, c, e, h => by
    simp only [findE] at h
    by_cases hc : c = x.blk
    · subst hc; exact ⟨hf.1, hf.2.1⟩
    · rw [if_neg hc] at h; exact fresh_findS hf.2.2 h
theorem fresh_appS {b : Nat} : ∀ {A B : Hp}, fresh b A → fresh b B → fresh b (A ++ B)
  | [], _, _, h => h
  | e :: r, B, h, h' => ⟨h.1, h.2.1, fresh_appS h.2.2 h'⟩
theorem fresh_app_iff {b : Nat} : ∀ {A B : Hp}, fresh b (A ++ B) ↔ fresh b A ∧ fresh b B
  | [], _ => ⟨fun h => ⟨trivial, h⟩, fun h => h.2⟩
  | e :: r, B => by
    show (b ≠ e.blk ∧ e.blk ≠ b ∧ fresh b (r ++ B)) ↔ _
    rw [fresh_app_iff]
    exact ⟨fun ⟨h1, h2, h3, h4⟩ => ⟨⟨h1, h2, h3⟩, h4⟩, fun ⟨⟨h1, h2, h3⟩, h4⟩ => ⟨h1, h2, h3, h4⟩⟩
theorem Ext.cons {H : Hp} {e : Ent} (hm : marksOf H = []) (he : marksOf [e] = []) (hf : fresh e.blk H) : Ext H (e :: H) := by
  refine ⟨by rw [show e :: H = [e] ++ H from rfl, marks_append, he, hm]; rfl, fun b o n cs h => ?_⟩
  obtain ⟨e', he'⟩ := cellsAt_findS h
  have := (fresh_findS hf he').2
  unfold cellsAt at h ⊢
  simp only [findE, if_neg this]
  exact h
theorem findE_app {b : Nat} : ∀ {A B : Hp}, findE (A ++ B) b = (match findE A b with | some e => some e | none => findE B b)
  | [], _ => rfl
  | e :: r, B => by
    simp only [List.cons_append, findE]
    split
    · rfl
    · exact findE_app
theorem cellsAt_swap {N M : Hp} (hf : freshN N M) : cellsAt (N ++ M) = cellsAt (M ++ N) := by
  have hne : ∀ {N : Hp}, freshN N M → ∀ {b : Nat} {e e' : Ent}, findE N b = some e → findE M b = some e' → False := by
    intro N
    induction N with
    | nil => intro _ b e e' h; simp [findE] at h
    | cons x r ih =>
      intro hf b e e' h h'
      simp only [findE] at h
      by_cases hb : b = x.blk
      · exact (fresh_findS hf.1 h').2 hb
      · rw [if_neg hb] at h; exact ih hf.2 h h'
  funext b o n
  unfold cellsAt
  rw [findE_app, findE_app]
  cases h1 : findE N b with
  | none => cases h2 : findE M b <;> rfl
  | some e => cases h2 : findE M b with
    | none => rfl
    | some e' => exact (hne hf h1 h2).elim
theorem Ext.app {M N : Hp} (hm : marksOf M = []) (hn : marksOf N = []) : Ext M (M ++ N) := by
  refine ⟨by rw [marks_append, hm, hn]; rfl, fun b o n cs h => ?_⟩
  obtain ⟨e, he⟩ := cellsAt_findS h
  unfold cellsAt at h ⊢
  rw [findE_app, he]
  rw [he] at h
  exact h
theorem freshN_mono {N A B : Hp} (h : freshN N (A ++ B)) : freshN N A ∧ freshN N B := by
  induction N with
  | nil => exact ⟨trivial, trivial⟩
  | cons x r ih =>
    obtain ⟨h1, h2⟩ := fresh_app_iff.1 h.1
    exact ⟨⟨h1, (ih h.2).1⟩, ⟨h2, (ih h.2).2⟩⟩
theorem freshN_sym : ∀ {L N : Hp}, freshN N L → freshN L N := by
  intro L N h
  have hne : ∀ e ∈ N, ∀ x ∈ L, x.blk ≠ e.blk ∧ e.blk ≠ x.blk := by
    induction N with
    | nil => intro e he; cases he
    | cons y r ih =>
      intro e he x hx
      rcases List.mem_cons.1 he with rfl | he
      · have := fresh_ne h.1 x hx; exact ⟨this, Ne.symm this⟩
      · exact ih h.2 e he x hx
  exact freshN_of fun e he x hx => (hne x hx e he).2
theorem freshN_comb : ∀ {L A B : Hp}, freshN L A → freshN L B → freshN L (A ++ B)
  | [], _, _, _, _ => trivial
  | e :: r, A, B, h, h' => ⟨fresh_appS h.1 h'.1, freshN_comb h.2 h'.2⟩
theorem CallsV.toK {P : Program} {g : FuncId} {args : List Value} {M : Hp} {K K' : Value → Hp → Prop} (hc : CallsV P g args M K) (h : ∀ v N, K v N → K' v N) : CallsV P g args M K' := by
  refine ⟨hc.1, fun w0 mu w hs => (hc.2 w0 mu w hs).mono ?_⟩
  rintro e w' ⟨v, H', h1, h2, h3⟩
  exact ⟨v, H', h1, h v H' h2, h3⟩
def NewK (M0 : Hp) (Q : Value → Hp → Prop) : Value → Hp → Prop := fun v N => allWr N ∧ marksOf N = [] ∧ (freshN N M0 → Q v (N ++ M0))
def RdOnly (Q : Value → Hp → Prop) : Prop := ∀ v A B, cellsAt A = cellsAt B → Q v A → Q v B
def CallsR (P : Program) (g : FuncId) (args : List Value) (M : Hp) (Q : Value → Hp → Prop) : Prop :=
  ∀ M0, roM M0 → cellsAt M0 = cellsAt M → CallsV P g args M0 (NewK M0 Q)
theorem findE_freshS {b : Nat} : ∀ {H : Hp}, fresh b H → findE H b = none
  | [], _ => rfl
  | e :: r, h => by rw [findE, if_neg h.1]; exact findE_freshS h.2.2
theorem freshN_iff {N H : Hp} : freshN N H ↔ ∀ e ∈ N, ∀ x ∈ H, x.blk ≠ e.blk := by
  constructor
  · intro h
    induction N with
    | nil => intro e he; cases he
    | cons y r ih =>
      intro e he x hx
      rcases List.mem_cons.1 he with rfl | he
      · exact fresh_ne h.1 x hx
      · exact ih h.2 e he x hx
  · exact freshN_of
theorem CallsV.perm {P : Program} {g : FuncId} {args : List Value} {H : Hp} {K K' : Value → Hp → Prop} (hc : CallsV P g args H K) (hk : ∀ v H', K v H' → ∃ H'', H''.Perm H' ∧ marksOf H'' = marksOf H' ∧ K' v H'') : CallsV P g args H K' := by
  refine ⟨hc.1, fun w0 mu w hs => (hc.2 w0 mu w hs).mono ?_⟩
  rintro e w' ⟨v, H', rfl, h1, h2, h3⟩
  obtain ⟨H'', h4, h5, h6⟩ := hk v H' h1
  exact ⟨v, H'', rfl, h6, h2.perm h4.symm, h5.trans h3⟩
def Gr (M M' : Hp) : Prop := marksOf M = [] ∧ ∃ N, M' = M ++ N ∧ allWr N ∧ marksOf N = []
theorem allWr_app : ∀ {A B : Hp}, allWr A → allWr B → allWr (A ++ B)
  | [], _, _, h => h
  | _ :: _, _, h, h' => ⟨h.1, allWr_app h.2 h'⟩
theorem Gr.refl {M : Hp} (h : marksOf M = []) : Gr M M := ⟨h, [], by simp, trivial, rfl⟩
theorem Gr.trans {M M' M'' : Hp} (h : Gr M M') (h' : Gr M' M'') : Gr M M'' := by
  obtain ⟨h1, N, rfl, h2, h3⟩ := h
  obtain ⟨_, N', rfl, h4, h5⟩ := h'
  exact ⟨h1, N ++ N', by rw [List.append_assoc], allWr_app h2 h4, by rw [marks_append, h3, h5]; rfl⟩
theorem Gr.ext {M M' : Hp} (h : Gr M M') : Ext M M' := by
  obtain ⟨h1, N, rfl, _, h3⟩ := h
  exact Ext.app h1 h3
theorem Gr.marks {M M' : Hp} (h : Gr M M') : marksOf M' = [] := h.ext.marks
theorem doneK2 {M M1 : Hp} (L : Hp) {Q : Value → Hp → Prop} {v : Value} (hg : Gr M M1) (hQ : RdOnly Q) (hq : Q v M1) : ∃ H', H'.Sublist (L ++ dropM M1) ∧ NewK M Q v H' := by
  obtain ⟨h1, N, rfl, h2, h3⟩ := hg
  refine ⟨N, ?_, h2, h3, fun hf => hQ v _ _ (cellsAt_swap hf).symm hq⟩
  rw [dropM_eq (by rw [marks_append, h1, h3]; rfl), ← List.append_assoc]
  exact List.sublist_append_right _ _
theorem derE_behind {L M : Hp} (hL : freshN L M) : derE (L ++ M) (roAll M) := by
  have hl : ∀ {R : Hp}, (∀ e ∈ R, e ∈ roAll M) → derE (L ++ M) R := by
    intro R
    induction R with
    | nil => intro _; trivial
    | cons e r ih =>
      intro h
      obtain ⟨h1, h2⟩ := roAll_mem (h e (by simp))
      refine ⟨⟨h1, ?_⟩, ih fun x hx => h x (by simp [hx])⟩
      rw [findE_roAll] at h2
      obtain ⟨e0, h3, h4⟩ := Option.map_eq_some_iff.1 h2
      have hLn : findE L e.blk = none := by
        cases hL0 : findE L e.blk with
        | none => rfl
        | some x =>
          obtain ⟨hx1, hx2⟩ := findE_mem hL0
          obtain ⟨hy1, hy2⟩ := findE_mem h3
          exact absurd (hy2.trans hx2.symm) (freshN_iff.1 hL x hx1 e0 hy1)
      unfold cellsAt
      rw [findE_app, hLn, h3, ← h4]
      simp [subL]
  exact hl fun _ h => h
theorem useL {P : Program} {g : FuncId} {args : List Value} (L : Hp) {M : Hp} {Q : Value → Hp → Prop} {K' : Value → Hp → Prop} (hc : CallsR P g args M Q) (hQ : RdOnly Q) (hm : marksOf M = []) (hL : freshN L M)
    (hk : ∀ v M', Gr M M' → freshN L M' → Q v M' → K' v (L ++ M')) : CallsV P g args (L ++ M) K' := by
  have hc0 := hc (roAll M) (roAll_ro M) (cellsAt_roAll M)
  have hder := derE_behind hL
  refine (hc0.use hder (K' := fun v H' => ∃ N, H' = N ++ (L ++ M) ∧ marksOf N = [] ∧ K' v (L ++ (M ++ N))) ?_).perm ?_
  · rintro v N ⟨h1, h2, h3⟩
    refine ⟨h1, h2, fun hf => ⟨N, rfl, h2, ?_⟩⟩
    have hfL := (freshN_mono hf).1
    have hfM := (freshN_mono hf).2
    have hf0 : freshN N (roAll M) := freshN_iff.2 fun e he x hx => by
      have h2 := (roAll_mem hx).2
      rw [findE_roAll] at h2
      obtain ⟨e0, h3, h4⟩ := Option.map_eq_some_iff.1 h2
      obtain ⟨hy1, hy2⟩ := findE_mem h3
      rw [← hy2]
      exact freshN_iff.1 hfM e he e0 hy1
    refine hk v (M ++ N) ⟨hm, N, rfl, h1, h2⟩ (freshN_comb hL (freshN_sym hfL)) (hQ _ _ _ ?_ (h3 hf0))
    rw [cellsAt_swap hf0]
    funext b o n
    have hh := congrFun (congrFun (congrFun (cellsAt_roAll M) b) o) n
    unfold cellsAt at hh ⊢
    rw [findE_app, findE_app]
    rw [findE_roAll] at hh ⊢
    cases hfm : findE M b with
    | none => rfl
    | some e => rw [hfm] at hh; exact hh
  · rintro v H' ⟨N, rfl, hN, hk'⟩
    refine ⟨L ++ (M ++ N), ?_, ?_, hk'⟩
    · rw [← List.append_assoc]; exact List.perm_append_comm
    · simp only [marks_append, hN, List.append_nil, List.nil_append]
theorem useP {P : Program} {g : FuncId} {args : List Value} (L : Hp) {M : Hp} {v : Value} {K' : Value → Hp → Prop} (hc : ∀ M0, roM M0 → cellsAt M0 = cellsAt M → CallsV P g args M0 (Ret0 v)) (hL : freshN L M)
    (hk : K' v (L ++ M)) : CallsV P g args (L ++ M) K' :=
  (hc (roAll M) (roAll_ro M) (cellsAt_roAll M)).pure (derE_behind hL) hk
def LiR {α : Type} (c : α → List Value) (s : Nat) (H : Hp) (l : List α) (v : Value) : Prop :=
  ∃ p k, v = .slice p l.length k ∧ (l = [] ∨ ∃ b o, p = some ⟨b, o, none⟩ ∧ cellsAt H b o (l.length * s) = some (l.flatMap c))
section
variable {α : Type} {c : α → List Value} {s : Nat} {H : Hp} {l : List α} {v : Value}
theorem LiR.ext {H' : Hp} (h : Ext H H') (hl : LiR c s H l v) : LiR c s H' l v := by
  obtain ⟨p, k, rfl, h1 | ⟨b, o, rfl, h1⟩⟩ := hl
  · exact ⟨p, k, rfl, .inl h1⟩
  · exact ⟨_, k, rfl, .inr ⟨b, o, rfl, h.keep _ _ _ _ h1⟩⟩
theorem LiR.congr {H' : Hp} (h : cellsAt H = cellsAt H') (hl : LiR c s H l v) : LiR c s H' l v := by
  obtain ⟨p, k, rfl, h1 | ⟨b, o, rfl, h1⟩⟩ := hl
  · exact ⟨p, k, rfl, .inl h1⟩
  · exact ⟨_, k, rfl, .inr ⟨b, o, rfl, by rw [← h]; exact h1⟩⟩
theorem LiR.rd (l : List α) : RdOnly (fun v H => LiR c s H l v) := fun _ _ _ h hl => hl.congr h
theorem LiR.nil (H : Hp) (k : Nat) : LiR c s H [] (.slice none 0 k) := ⟨none, k, rfl, .inl rfl⟩
theorem flatMap_len (hs : ∀ x, (c x).length = s) : ∀ l : List α, (l.flatMap c).length = l.length * s
  | [] => by simp
  | x :: r => by rw [List.flatMap_cons, List.length_append, hs, flatMap_len hs r, List.length_cons, Nat.succ_mul, Nat.add_comm]
theorem flatMap_at (hs : ∀ x, (c x).length = s) : ∀ {l : List α} {i : Nat} {x : α}, l[i]? = some x → ∀ {q n : Nat}, q + n ≤ s → List.take n (List.drop (i * s + q) (l.flatMap c)) = List.take n (List.drop q (c x))
  | [], i, x, h, _, _, _ => by simp at h
  | y :: r, 0, x, h, q, n, hq => by
    simp only [List.getElem?_cons_zero, Option.some.injEq] at h
    subst h
    rw [Nat.zero_mul, Nat.zero_add, List.flatMap_cons, List.drop_append_of_le_length (by rw [hs]; omega), List.take_append_of_le_length (by rw [List.length_drop, hs]; omega)]
  | y :: r, i + 1, x, h, q, n, hq => by
    rw [List.flatMap_cons, Nat.succ_mul, show i * s + s + q = s + (i * s + q) by omega, ← List.drop_drop, show List.drop s (c y ++ r.flatMap c) = r.flatMap c by rw [← hs y]; exact List.drop_left ..]
    exact flatMap_at hs (l := r) (by simpa using h) hq
theorem LiR.open (hs : ∀ x, (c x).length = s) (h0 : 0 < s) (hl : LiR c s H l v) : ∃ p k, v = .slice p l.length k ∧ (l = [] ∨ ∃ b f d kd cs, p = some ⟨b, f + d, none⟩ ∧ findE H b = some ⟨b, f, kd, cs⟩ ∧
    (∀ i x, l[i]? = some x → ∀ q n, q + n ≤ s → d + i * s + q + n ≤ cs.length ∧ List.take n (List.drop (d + i * s + q) cs) = List.take n (List.drop q (c x))) ∧ d + l.length * s ≤ cs.length ∧ List.take (l.length * s) (List.drop d cs) = l.flatMap c) := by
  obtain ⟨p, k, rfl, h1 | ⟨b, o, rfl, h1⟩⟩ := hl
  · exact ⟨p, k, rfl, .inl h1⟩
  · refine ⟨_, k, rfl, .inr ?_⟩
    obtain ⟨⟨b', f, kd, cs⟩, he⟩ := cellsAt_findS h1
    obtain rfl : b' = b := (findE_mem he).2
    unfold cellsAt at h1
    rw [he] at h1
    dsimp only at h1
    split at h1
    case isFalse => cases h1
    rename_i hle
    obtain ⟨d, rfl⟩ : ∃ d, o = f + d := ⟨o - f, by omega⟩
    rw [Nat.add_sub_cancel_left] at h1
    unfold subL at h1
    split at h1
    case isFalse => cases h1
    rename_i hlen
    have h2 := Option.some.inj h1
    refine ⟨b', f, d, kd, cs, rfl, he, fun i x hx q n hq => ?_, hlen, h2⟩
    have hi := (List.getElem?_eq_some_iff.1 hx).1
    have hm : i * s + s ≤ l.length * s := by rw [← Nat.succ_mul]; exact Nat.mul_le_mul_right _ hi
    refine ⟨by omega, ?_⟩
    rw [← flatMap_at hs hx hq, ← h2, List.drop_take, List.take_take, List.drop_drop, Nat.min_eq_left (by omega), Nat.add_assoc]
end
end Go.Ev
set_option linter.unusedSimpArgs false
set_option linter.unusedVariables false
namespace Go.Ev
theorem Ext.sl {H H' : Hp} (h : Ext H H') {l : List Sl} {v : Value} (hs : SlR H l v) : SlR H' l v := by
  obtain ⟨p, c, rfl, h1 | ⟨b, o, rfl, h1⟩⟩ := hs
  · exact ⟨p, c, rfl, .inl h1⟩
  · exact ⟨_, c, rfl, .inr ⟨b, o, rfl, h.keep _ _ _ _ h1⟩⟩
def ofG : List Value → Option Value
  | [.int .i64 n] => if -9223372036854775808 ≤ n ∧ n ≤ 9223372036854775807 then some (W.ofInt n).v else none
  | _ => none
attribute [push_cast] ofG
theorem SlR.vec {l : List Sl} {b n c : Nat} {k : Kind} {cs : List Value} {H : Hp} (h : cs = slC l) (hn : n = l.length) : SlR (⟨b, 0, k, cs⟩ :: H) l (.slice (some ⟨b, 0, none⟩) n c) := by
  subst h hn
  refine ⟨_, c, rfl, .inr ⟨b, 0, rfl, ?_⟩⟩
  simp only [cellsAt, findE, if_true, Nat.le_refl, Nat.sub_self, subL, Nat.zero_add, slC_len, List.drop_zero]
  rw [slC_take]
theorem Sl.takeA (x : Sl) (l : List Value) : List.take 8 (x.cells ++ l) = x.cells := rfl
theorem Sl.dropB (x : Sl) (l : List Value) (n : Nat) : List.drop (n + 8) (x.cells ++ l) = List.drop n l := rfl
attribute [push_cast] Sl.takeA Sl.dropB
end Go.Ev
namespace Go.Proofs.YtkhpncfgimlleaaGreat
open Go Go.Ev Go.Proofs
set_option maxRecDepth 100000
set_option maxHeartbeats 4000000
section
variable {H : Hp} {l m : List Sl} {v u : Value} {k w : W} {K' : Value → Hp → Prop}
end
section
theorem n3 : (W.ofInt 3).num = 3 := by decide
theorem n5 : (W.ofInt 5).num = 5 := by decide
theorem n1 : (W.ofInt 1).num = 1 := by decide
end
end Go.Proofs.YtkhpncfgimlleaaGreat
set_option linter.unusedSimpArgs false
set_option linter.unusedVariables false
namespace Go.Proofs.YtkhpncfgimlleaaGreat
open Go Go.Ev Go.Proofs Go.ChangeShapes Go.WideShapes Go.ChangeAt Go.RowKit
set_option maxRecDepth 100000
set_option maxHeartbeats 4000000
theorem own : ownKnob Tryz.prog.godebug = none := by kernel_rfl
theorem kids : Kids Tryz.prog (· < Tryz.prog.types.size) := kids_rows (by kernel_rfl) (by kernel_rfl)
theorem full : ∀ t e, t < Tryz.prog.types.size → Tryz.prog.underlying t = some (.slice e) → 0 < Tryz.prog.cellsOf e := slices_full_of Tryz.prog (by kernel_rfl)
theorem i64_wf {n : Int} (h : (Lit.int .i64 n).wf = true) : i64In n := by
  simp [Lit.wf, IntKind.min, IntKind.max, IntKind.signed, IntKind.bits] at h
  exact ⟨by omega, by omega⟩
theorem calls_law {W : World} {f : FuncId} {args : Array Value} {K : Ending → World → Prop} (h : CallsV Tryz.prog f args.toList (roW W) (Ret0 (.bool true)))
    (hk : ∀ W', W'.os = W.os → W'.output = W.output → (∀ b, b < W.heap.size → W'.heap[b]? = W.heap[b]?) → K (.returned (.bool true)) W') : Calls Tryz.prog f args W K := by
  have h2 := (h.2 W (fun _ => False) W (roW_sat W)).calls (fun k => by unfold Fence.room Fr; simp)
  rw [Array.toArray_toList] at h2
  refine h2.mono ?_
  rintro e W' ⟨v, H', rfl, ⟨rfl, _⟩, hs, _⟩
  exact hk W' hs.os hs.output fun b hb => hs.old b hb id
end Go.Proofs.YtkhpncfgimlleaaGreat
set_option linter.unusedSimpArgs false
set_option linter.unusedVariables false
namespace Go.Ev
theorem SlR.here {H : Hp} {l : List Sl} {b o n c : Nat} (h : SlR H l (.slice (some ⟨b, o, none⟩) n c)) (hn : l ≠ []) : ∃ e, findE H b = some e ∧ ∀ (i : Nat) (x : Sl), l[i]? = some x →
    e.off ≤ o + i * 8 ∧ e.off ≤ o + i * 8 + 4 ∧ o + i * 8 - e.off + 8 ≤ e.cells.length ∧ o + i * 8 - e.off + 4 ≤ e.cells.length ∧ o + i * 8 + 4 - e.off + 4 ≤ e.cells.length ∧
    List.take 8 (List.drop (o + i * 8 - e.off) e.cells) = x.cells ∧ List.take 4 (List.drop (o + i * 8 - e.off) e.cells) = x.key.cells ∧ List.take 4 (List.drop (o + i * 8 + 4 - e.off) e.cells) = x.val.cells := by
  rcases h.open with ⟨h0, _⟩ | ⟨b', o', c', e, hv, he, hx⟩
  · exact absurd h0 hn
  · cases hv; exact ⟨e, he, hx⟩
theorem SlR.lies {H : Hp} {l : List Sl} {v : Value} (h : SlR H l v) {k : Nat} (hk : k < l.length) : ∃ b o c, v = .slice (some ⟨b, o, none⟩) l.length c := by
  rcases h.open with ⟨h0, _⟩ | ⟨b', o', c', e, hv, he, hx⟩
  · rw [h0] at hk; cases hk
  · exact ⟨b', o', c', hv⟩
end Go.Ev
namespace Go.Proofs.YtkhpncfgimlleaaGreat
open Go Go.Ev Go.Proofs
set_option maxRecDepth 100000
set_option maxHeartbeats 4000000
theorem refPatch_ok {Hf : Hp} {l : List Sl} {v : Value} (hv : SlH l v Hf) (hn : l.length ≤ 4000) : CallsV Tryz.prog 87 [v] Hf (Ret0 (.bool (patchB l))) := by
  have hm := hv.marks
  have hr := hv.r
  obtain ⟨q, c, rfl, _⟩ := id hr
  refine callsO gB_ok Tryz.mix Tryz.pl87 Tryz.func87 rfl Tryz.ntmps87 Tryz.results87 rfl (by first | rfl | assumption) (Nat.le_of_ble_eq_true rfl) (by kernel_rfl) ?_
  simp only [push_cast, Nat.reduceAdd, Nat.reduceSub, Nat.reduceMul, Nat.reduceLT, Nat.reduceLeDiff, Nat.reduceEqDiff, Nat.reduceMod, Nat.reduceDiv, Int.reduceAdd, Int.reduceSub, Int.reduceMul, Int.reduceLT, Int.reduceLE, Int.reduceEq, Int.reduceNeg, Int.reduceToNat, reduceIte, reduceCtorEq, Int.reduceBEq, Int.reduceBNe]
  refine loopO gB_ok (pl := Tryz.pl87) Tryz.mix (X := Nat)
    (fun k => ([(0, .slice q l.length c), (3, .int .i64 k)], Hf))
    (fun k => 0 < k ∧ k ≤ l.length + 1 ∧ ∀ i x y, i + 1 < k → l[i]? = some x → l[i + 1]? = some y → x.key.num < y.key.num) (fun k => l.length + 1 - k) 1 ?_ ?_ (by kernel_rfl) ?_
  · exact ⟨Nat.one_pos, by omega, fun i x y h => by omega⟩
  · simp only [push_cast, Nat.reduceAdd, Nat.reduceSub, Nat.reduceMul, Nat.reduceLT, Nat.reduceLeDiff, Nat.reduceEqDiff, Nat.reduceMod, Nat.reduceDiv, Int.reduceAdd, Int.reduceSub, Int.reduceMul, Int.reduceLT, Int.reduceLE, Int.reduceEq, Int.reduceNeg, Int.reduceToNat, reduceIte, reduceCtorEq, Int.reduceBEq, Int.reduceBNe, hm]
  · rintro k ⟨h0, hk, ho⟩
    dsimp only at hk ho ⊢
    rcases Nat.lt_or_ge k l.length with hlt | hge
    · obtain ⟨j, rfl⟩ : ∃ j, k = j + 1 := ⟨k - 1, by omega⟩
      obtain ⟨k, hkj⟩ : ∃ k, k = j + 1 := ⟨_, rfl⟩
      rw [← hkj] at hlt ho ⊢
      have hjl : j < l.length := by omega
      obtain ⟨x, hx⟩ : ∃ x, l[j]? = some x := ⟨l[j], List.getElem?_eq_getElem hjl⟩
      obtain ⟨y, hy⟩ : ∃ y, l[k]? = some y := ⟨l[k], List.getElem?_eq_getElem hlt⟩
      obtain ⟨b, o, c', hc⟩ := hr.lies hlt
      cases hc
      obtain ⟨e, he, hg⟩ := hr.here (by rintro rfl; cases hlt)
      have hxj := hg j x hx
      have hyk := hg k y hy
      have ej : (k : Int) - 1 = (j : Int) := by omega
      rcases Int.lt_or_le (x.key.cmp y.key) 0 with hc | hc
      · have h2 := W.cmp_neg.1 hc
        have hc' : ¬ (0 : Int) ≤ x.key.cmp y.key := by omega
        simp only [push_cast, Nat.reduceAdd, Nat.reduceSub, Nat.reduceMul, Nat.reduceLT, Nat.reduceLeDiff, Nat.reduceEqDiff, Nat.reduceMod, Nat.reduceDiv, Int.reduceAdd, Int.reduceSub, Int.reduceMul, Int.reduceLT, Int.reduceLE, Int.reduceEq, Int.reduceNeg, Int.reduceToNat, reduceIte, reduceCtorEq, Int.reduceBEq, Int.reduceBNe, hlt, hjl, ej, wrap_i64' (show -9223372036854775808 ≤ (j : Int) ∧ (j : Int) ≤ 9223372036854775807 by omega), he, hxj, hyk, hc', wrap_i64' (show -9223372036854775808 ≤ (k : Int) + 1 ∧ (k : Int) + 1 ≤ 9223372036854775807 by omega)]
        refine ⟨k + 1, ⟨by omega, by omega, fun i x' y' hi h3 h4 => ?_⟩, by omega, rfl⟩
        rcases Nat.lt_or_ge (i + 1) k with h5 | h5
        · exact ho i x' y' h5 h3 h4
        · obtain rfl : i = j := by omega
          rw [← hkj] at h4
          rw [hx] at h3; rw [hy] at h4
          cases h3; cases h4
          exact h2
      · have h0 : patchB l = false := by
          unfold patchB
          rw [risesB_false fun hrr => ?_, Bool.and_false]
          have := W.cmp_neg.2 (hrr j x y hx (by rw [← hkj]; exact hy))
          omega
        simp only [push_cast, Nat.reduceAdd, Nat.reduceSub, Nat.reduceMul, Nat.reduceLT, Nat.reduceLeDiff, Nat.reduceEqDiff, Nat.reduceMod, Nat.reduceDiv, Int.reduceAdd, Int.reduceSub, Int.reduceMul, Int.reduceLT, Int.reduceLE, Int.reduceEq, Int.reduceNeg, Int.reduceToNat, reduceIte, reduceCtorEq, Int.reduceBEq, Int.reduceBNe, hlt, hjl, ej, wrap_i64' (show -9223372036854775808 ≤ (j : Int) ∧ (j : Int) ≤ 9223372036854775807 by omega), he, hxj, hyk, hc, h0]
    · have h0 : risesB l = true := risesB_true (fun i x y hi hj => ho i x y (by have := (List.getElem?_eq_some_iff.1 hj).1; omega) hi hj)
      have e2 : ¬ k < l.length := by omega
      have e3 : patchB l = decide ((l.length : Int) ≤ 1000) := by
        unfold patchB
        rw [h0, Bool.and_true]
        congr 1
        simp only [eq_iff_iff]
        omega
      simp only [push_cast, Nat.reduceAdd, Nat.reduceSub, Nat.reduceMul, Nat.reduceLT, Nat.reduceLeDiff, Nat.reduceEqDiff, Nat.reduceMod, Nat.reduceDiv, Int.reduceAdd, Int.reduceSub, Int.reduceMul, Int.reduceLT, Int.reduceLE, Int.reduceEq, Int.reduceNeg, Int.reduceToNat, reduceIte, reduceCtorEq, Int.reduceBEq, Int.reduceBNe, e2, e3]
theorem refRight_ok {Hf : Hp} {l : List Sl} {v : Value} (hv : SlH l v Hf) (hn : l.length ≤ 4000) : CallsV Tryz.prog 71 [v] Hf (Ret0 (.bool (rightB l))) := by
  have hm := hv.marks
  have hr := hv.r
  obtain ⟨q, c, rfl, _⟩ := id hr
  refine callsO gB_ok Tryz.mix Tryz.pl71 Tryz.func71 rfl Tryz.ntmps71 Tryz.results71 rfl (by first | rfl | assumption) (Nat.le_of_ble_eq_true rfl) (by kernel_rfl) ?_
  simp only [push_cast, Nat.reduceAdd, Nat.reduceSub, Nat.reduceMul, Nat.reduceLT, Nat.reduceLeDiff, Nat.reduceEqDiff, Nat.reduceMod, Nat.reduceDiv, Int.reduceAdd, Int.reduceSub, Int.reduceMul, Int.reduceLT, Int.reduceLE, Int.reduceEq, Int.reduceNeg, Int.reduceToNat, reduceIte, reduceCtorEq, Int.reduceBEq, Int.reduceBNe]
  refine loopO gB_ok (pl := Tryz.pl71) Tryz.mix (X := Nat)
    (fun k => ([(0, .slice q l.length c), (3, .int .i64 k)], Hf))
    (fun k => k ≤ l.length ∧ ∀ i x, i < k → l[i]? = some x → ¬ x.val = W.zero) (fun k => l.length - k) 0 ?_ ?_ (by kernel_rfl) ?_
  · exact ⟨Nat.zero_le _, fun i x h => by omega⟩
  · simp only [push_cast, Nat.reduceAdd, Nat.reduceSub, Nat.reduceMul, Nat.reduceLT, Nat.reduceLeDiff, Nat.reduceEqDiff, Nat.reduceMod, Nat.reduceDiv, Int.reduceAdd, Int.reduceSub, Int.reduceMul, Int.reduceLT, Int.reduceLE, Int.reduceEq, Int.reduceNeg, Int.reduceToNat, reduceIte, reduceCtorEq, Int.reduceBEq, Int.reduceBNe, hm]
  · rintro k ⟨hk, ho⟩
    dsimp only at hk ho ⊢
    rcases Nat.lt_or_ge k l.length with hlt | hge
    · obtain ⟨x, hx⟩ : ∃ x, l[k]? = some x := ⟨l[k], List.getElem?_eq_getElem hlt⟩
      obtain ⟨b, o, c', hc⟩ := hr.lies hlt
      cases hc
      obtain ⟨e, he, hg⟩ := hr.here (by rintro rfl; cases hlt)
      have hxk := hg k x hx
      by_cases h0 : x.val = W.zero
      · have e1 : decide (x.val = W.zero) = true := by simpa using h0
        have e2 : rightB l = false := by
          unfold rightB
          have : (l.any fun x => decide (x.val = W.zero)) = true := List.any_eq_true.2 ⟨x, List.mem_of_getElem? hx, e1⟩
          rw [this]; simp
        simp only [push_cast, Nat.reduceAdd, Nat.reduceSub, Nat.reduceMul, Nat.reduceLT, Nat.reduceLeDiff, Nat.reduceEqDiff, Nat.reduceMod, Nat.reduceDiv, Int.reduceAdd, Int.reduceSub, Int.reduceMul, Int.reduceLT, Int.reduceLE, Int.reduceEq, Int.reduceNeg, Int.reduceToNat, reduceIte, reduceCtorEq, Int.reduceBEq, Int.reduceBNe, hlt, he, hxk, W.zero_agg, e1, e2]
      · have e1 : decide (x.val = W.zero) = false := by simpa using h0
        simp only [push_cast, Nat.reduceAdd, Nat.reduceSub, Nat.reduceMul, Nat.reduceLT, Nat.reduceLeDiff, Nat.reduceEqDiff, Nat.reduceMod, Nat.reduceDiv, Int.reduceAdd, Int.reduceSub, Int.reduceMul, Int.reduceLT, Int.reduceLE, Int.reduceEq, Int.reduceNeg, Int.reduceToNat, reduceIte, reduceCtorEq, Int.reduceBEq, Int.reduceBNe, hlt, he, hxk, W.zero_agg, e1, wrap_i64' (show -9223372036854775808 ≤ (k : Int) + 1 ∧ (k : Int) + 1 ≤ 9223372036854775807 by omega)]
        refine ⟨k + 1, ⟨hlt, fun i y hi hy => ?_⟩, by omega, rfl⟩
        rcases Nat.lt_or_ge i k with h5 | h5
        · exact ho i y h5 hy
        · obtain rfl : i = k := by omega
          rw [hx] at hy; cases hy; exact h0
    · have e2 : ¬ k < l.length := by omega
      have e3 : rightB l = patchB l := by
        unfold rightB
        have : (l.any fun x => decide (x.val = W.zero)) = false := by
          rw [List.any_eq_false]
          intro x hx
          obtain ⟨i, hi⟩ := List.mem_iff_getElem?.1 hx
          have := ho i x (by have := (List.getElem?_eq_some_iff.1 hi).1; omega) hi
          simpa using this
        rw [this]; simp
      simp only [push_cast, Nat.reduceAdd, Nat.reduceSub, Nat.reduceMul, Nat.reduceLT, Nat.reduceLeDiff, Nat.reduceEqDiff, Nat.reduceMod, Nat.reduceDiv, Int.reduceAdd, Int.reduceSub, Int.reduceMul, Int.reduceLT, Int.reduceLE, Int.reduceEq, Int.reduceNeg, Int.reduceToNat, reduceIte, reduceCtorEq, Int.reduceBEq, Int.reduceBNe, e2]
      refine (refPatch_ok hv hn).pure hv.der ?_
      simp only [push_cast, Nat.reduceAdd, Nat.reduceSub, Nat.reduceMul, Nat.reduceLT, Nat.reduceLeDiff, Nat.reduceEqDiff, Nat.reduceMod, Nat.reduceDiv, Int.reduceAdd, Int.reduceSub, Int.reduceMul, Int.reduceLT, Int.reduceLE, Int.reduceEq, Int.reduceNeg, Int.reduceToNat, reduceIte, reduceCtorEq, Int.reduceBEq, Int.reduceBNe, e3]
theorem refGet_ok {Hf : Hp} {l : List Sl} {v : Value} {k : W} (hv : SlH l v Hf) (hn : l.length ≤ 4000) : CallsV Tryz.prog 65 [v, k.v] Hf (Ret0 (getW l k).v) := by
  have hm := hv.marks
  have hr := hv.r
  obtain ⟨q, c, rfl, _⟩ := id hr
  refine callsO gB_ok Tryz.mix Tryz.pl65 Tryz.func65 rfl Tryz.ntmps65 Tryz.results65 rfl (by first | rfl | assumption) (Nat.le_of_ble_eq_true rfl) (by kernel_rfl) ?_
  simp only [push_cast, Nat.reduceAdd, Nat.reduceSub, Nat.reduceMul, Nat.reduceLT, Nat.reduceLeDiff, Nat.reduceEqDiff, Nat.reduceMod, Nat.reduceDiv, Int.reduceAdd, Int.reduceSub, Int.reduceMul, Int.reduceLT, Int.reduceLE, Int.reduceEq, Int.reduceNeg, Int.reduceToNat, reduceIte, reduceCtorEq, Int.reduceBEq, Int.reduceBNe]
  intro b3 hb3 b4 hb4
  refine loopO gB_ok (pl := Tryz.pl65) Tryz.mix (X := Nat)
    (fun i => ([(0, .slice q l.length c), (3, .pointer (some ⟨b3, 0, none⟩)), (4, .pointer (some ⟨b4, 0, none⟩)), (5, .int .i64 i)], ⟨b4, 0, .cel 29, W.zero.cells⟩ :: ⟨b3, 0, .cel 29, k.cells⟩ :: Hf))
    (fun i => i ≤ l.length ∧ ∀ j x, j < i → l[j]? = some x → ¬ x.key = k) (fun i => l.length - i) 0 ?_ ?_ (by kernel_rfl) ?_
  · exact ⟨Nat.zero_le _, fun i x h => by omega⟩
  · simp only [push_cast, Nat.reduceAdd, Nat.reduceSub, Nat.reduceMul, Nat.reduceLT, Nat.reduceLeDiff, Nat.reduceEqDiff, Nat.reduceMod, Nat.reduceDiv, Int.reduceAdd, Int.reduceSub, Int.reduceMul, Int.reduceLT, Int.reduceLE, Int.reduceEq, Int.reduceNeg, Int.reduceToNat, reduceIte, reduceCtorEq, Int.reduceBEq, Int.reduceBNe, hm]
    rfl
  · rintro i ⟨hi, ho⟩
    dsimp only at hi ho ⊢
    rcases Nat.lt_or_ge i l.length with hlt | hge
    · obtain ⟨x, hx⟩ : ∃ x, l[i]? = some x := ⟨l[i], List.getElem?_eq_getElem hlt⟩
      obtain ⟨b, o, c', hc⟩ := hr.lies hlt
      cases hc
      obtain ⟨e, he, hg⟩ := hr.here (by rintro rfl; cases hlt)
      have hxi := hg i x hx
      have hf3 := fresh_find hb3 he
      have hf4 := fresh_find hb4.2.2 he
      by_cases h0 : x.key = k
      · have e1 : decide (x.key = k) = true := by simpa using h0
        have e2 : getW l k = x.val := by
          unfold getW
          have : (l.find? fun x => decide (x.key = k)) = some x := by
            rw [List.find?_eq_some_iff_getElem]
            refine ⟨e1, i, hlt, by simpa [List.getElem?_eq_getElem hlt] using hx, fun j hj => ?_⟩
            have := ho j _ hj (List.getElem?_eq_getElem (by omega))
            simpa using this
          rw [this]; rfl
        simp only [push_cast, Nat.reduceAdd, Nat.reduceSub, Nat.reduceMul, Nat.reduceLT, Nat.reduceLeDiff, Nat.reduceEqDiff, Nat.reduceMod, Nat.reduceDiv, Int.reduceAdd, Int.reduceSub, Int.reduceMul, Int.reduceLT, Int.reduceLE, Int.reduceEq, Int.reduceNeg, Int.reduceToNat, reduceIte, reduceCtorEq, Int.reduceBEq, Int.reduceBNe, hlt, he, hxi, hf3, hf4, hb4, hb3, e1, e2]
      · have e1 : decide (x.key = k) = false := by simpa using h0
        simp only [push_cast, Nat.reduceAdd, Nat.reduceSub, Nat.reduceMul, Nat.reduceLT, Nat.reduceLeDiff, Nat.reduceEqDiff, Nat.reduceMod, Nat.reduceDiv, Int.reduceAdd, Int.reduceSub, Int.reduceMul, Int.reduceLT, Int.reduceLE, Int.reduceEq, Int.reduceNeg, Int.reduceToNat, reduceIte, reduceCtorEq, Int.reduceBEq, Int.reduceBNe, hlt, he, hxi, hf3, hf4, hb4, hb3, e1, wrap_i64' (show -9223372036854775808 ≤ (i : Int) + 1 ∧ (i : Int) + 1 ≤ 9223372036854775807 by omega)]
        refine ⟨i + 1, ⟨hlt, fun j y hj hy => ?_⟩, by omega, rfl⟩
        rcases Nat.lt_or_ge j i with h5 | h5
        · exact ho j y h5 hy
        · obtain rfl : j = i := by omega
          rw [hx] at hy; cases hy; exact h0
    · have e2 : ¬ i < l.length := by omega
      have e3 : getW l k = W.zero := by
        unfold getW
        have : (l.find? fun x => decide (x.key = k)) = none := by
          rw [List.find?_eq_none]
          intro x hx
          obtain ⟨j, hj⟩ := List.mem_iff_getElem?.1 hx
          have := ho j x (by have := (List.getElem?_eq_some_iff.1 hj).1; omega) hj
          simpa using this
        rw [this]; rfl
      simp only [push_cast, Nat.reduceAdd, Nat.reduceSub, Nat.reduceMul, Nat.reduceLT, Nat.reduceLeDiff, Nat.reduceEqDiff, Nat.reduceMod, Nat.reduceDiv, Int.reduceAdd, Int.reduceSub, Int.reduceMul, Int.reduceLT, Int.reduceLE, Int.reduceEq, Int.reduceNeg, Int.reduceToNat, reduceIte, reduceCtorEq, Int.reduceBEq, Int.reduceBNe, e2, e3, hb4, hb3, W.zero_agg]
end Go.Proofs.YtkhpncfgimlleaaGreat
set_option linter.unusedSimpArgs false
set_option linter.unusedVariables false
namespace Go.Proofs.YtkhpncfgimlleaaGreat
open Go Go.Ev Go.Proofs
set_option maxRecDepth 100000
set_option maxHeartbeats 4000000
end Go.Proofs.YtkhpncfgimlleaaGreat
set_option linter.unusedSimpArgs false
set_option linter.unusedVariables false
namespace Go.Ev
def Unl (l : List Sl) : Prop := l.Pairwise fun x y => ¬ x.key = y.key
theorem srt_unl {l : List Sl} (h : Srt l) : Unl l := List.Pairwise.imp (fun {x y} hxy e => by rw [e] at hxy; omega) h
theorem lk_app (l m : List Sl) (k : W) : lk (l ++ m) k = (lk l k).or (lk m k) := by
  induction l with
  | nil => simp [lk_nil]
  | cons x r ih =>
    rw [List.cons_append, lk_cons, lk_cons, ih]
    by_cases h : x.key = k <;> simp [h]
def putsL (a : List Sl) (s : List Sl) : List Sl := s.foldl (fun q x => mergeL q [x]) a
theorem putsL_succ (a s : List Sl) (x : Sl) : putsL a (s ++ [x]) = mergeL (putsL a s) [x] := by
  unfold putsL; rw [List.foldl_append]; rfl
theorem srt_one (x : Sl) : Srt [x] := List.pairwise_singleton _ _
theorem putsL_ok {a : List Sl} (ha : Srt a) (hz : NoZ a) : ∀ (n : Nat) (s : List Sl), s.length = n → Srt (putsL a s) ∧ NoZ (putsL a s) ∧ (putsL a s).length ≤ a.length + n
  | 0, s, h => by
    obtain rfl := List.length_eq_zero_iff.1 h
    exact ⟨ha, hz, Nat.le_refl _⟩
  | n + 1, s, h => by
    obtain ⟨s', x, rfl⟩ : ∃ s' x, s = s' ++ [x] := ⟨s.dropLast, s.getLast (by intro e; rw [e] at h; simp at h), (List.dropLast_concat_getLast _).symm⟩
    obtain ⟨h1, h2, h3⟩ := putsL_ok ha hz n s' (by simpa using h)
    rw [putsL_succ]
    have := (joinS_bound (putsL a s') [x]).1
    simp only [List.length_singleton] at this
    exact ⟨mergeL_srt h1 (srt_one x), mergeL_noz h1 (srt_one x) h2, by omega⟩
theorem putsL_lk {a : List Sl} (ha : Srt a) (hz : NoZ a) (k : W) : ∀ (n : Nat) (s : List Sl), s.length = n → Unl s → lk (putsL a s) k = match lk s k with
    | some v => if v = W.zero then none else some v
    | none => lk a k
  | 0, s, h, _ => by
    obtain rfl := List.length_eq_zero_iff.1 h
    rfl
  | n + 1, s, h, hu => by
    obtain ⟨s', x, rfl⟩ : ∃ s' x, s = s' ++ [x] := ⟨s.dropLast, s.getLast (by intro e; rw [e] at h; simp at h), (List.dropLast_concat_getLast _).symm⟩
    obtain ⟨u1, _, u2⟩ := List.pairwise_append.1 hu
    obtain ⟨h1, h2, _⟩ := putsL_ok ha hz n s' (by simpa using h)
    rw [putsL_succ, mergeL_lk h1 (srt_one x) h2, putsL_lk ha hz k n s' (by simpa using h) u1, lk_app, lk_cons]
    by_cases hk : x.key = k
    · have h0 : lk s' k = none := lk_none fun y hy e => u2 y hy x (by simp) (e.trans hk.symm)
      simp [hk, h0]
    · simp [hk, lk_nil]
theorem puts_merge {a b : List Sl} (ha : Ri a) (hb : Srt b) : putsL a b = mergeL a b := by
  obtain ⟨h1, h2, _⟩ := putsL_ok ha.srt ha.noz b.length b rfl
  refine srt_ext h1 (mergeL_srt ha.srt hb) fun k => ?_
  rw [putsL_lk ha.srt ha.noz k _ b rfl (srt_unl hb), mergeL_lk ha.srt hb ha.noz]
  cases lk b k <;> rfl
theorem subH_new : ∀ (H N : Hp), (∀ e ∈ N, ∀ x ∈ H, ¬ x.blk = e.blk) → subH (N ++ H) H
  | [], N, _ => by cases N <;> exact trivial
  | e :: r, N, h => by
    have hn : ∀ x ∈ N, ¬ x.blk = e.blk := fun x hx he => h x hx e (by simp) he.symm
    refine ⟨by rw [findE_skip hn]; simp [findE], ?_⟩
    have : ∀ (M : Hp), (∀ x ∈ M, ¬ x.blk = e.blk) → remE (M ++ e :: r) e.blk = M ++ r := fun M => by
      induction M with
      | nil => intro _; simp [remE]
      | cons y M ih =>
        intro hM
        have hy := hM y (by simp)
        rw [List.cons_append, remE, if_neg (Ne.symm hy), ih fun x hx => hM x (by simp [hx])]
        rfl
    rw [this N hn]
    exact subH_new r N fun x hx y hy => h x hx y (by simp [hy])
end Go.Ev
set_option linter.unusedSimpArgs false
set_option linter.unusedVariables false
namespace Go.Ev
def putR (k w : W) : List Sl → Bool → List Sl
  | [], d => if d then [] else [⟨k, w⟩]
  | x :: r, d => if x.key = k then putR k w r d else if d = false ∧ 0 < x.key.cmp k then ⟨k, w⟩ :: x :: putR k w r true else x :: putR k w r d
theorem W.cmp_pos {x y : W} : 0 < x.cmp y ↔ y.num < x.num := by unfold W.cmp; repeat' split <;> omega
theorem putR_done {k w : W} : ∀ {l : List Sl}, (∀ x ∈ l, ¬ x.key = k) → putR k w l true = l
  | [], _ => rfl
  | x :: r, h => by
    rw [putR, if_neg (h x (by simp)), if_neg (by simp), putR_done fun y hy => h y (by simp [hy])]
theorem putR_lt {k w : W} : ∀ {l : List Sl} (d : Bool), (∀ x ∈ l, k.num < x.key.num) → putR k w l d = (if d then [] else [⟨k, w⟩]) ++ l
  | [], d, _ => by simp [putR]
  | x :: r, d, h => by
    have h0 := h x (by simp)
    have hne : ∀ y ∈ x :: r, ¬ y.key = k := fun y hy e => by have := h y hy; rw [e] at this; omega
    cases d with
    | true => rw [putR_done hne]; rfl
    | false =>
      rw [putR, if_neg (hne x (by simp)), if_pos ⟨rfl, W.cmp_pos.2 h0⟩, putR_done fun y hy => hne y (by simp [hy])]
      rfl
theorem mergeL_nil' : ∀ {l : List Sl}, NoZ l → mergeL l [] = l
  | [], _ => by simp [mergeL, joinS]
  | x :: r, h => by
    have h0 : ¬ x.val = W.zero := h x (by simp)
    have ih := mergeL_nil' (l := r) fun y hy => h y (by simp [hy])
    unfold mergeL at ih ⊢
    rw [joinS, List.filterMap_cons_some (b := x) (by simp [pickM, h0]), ih]
theorem putR_merge {k w : W} : ∀ {l : List Sl}, Srt l → NoZ l → putR k w l (decide (w = W.zero)) = mergeL l [⟨k, w⟩]
  | [], _, _ => by by_cases h : w = W.zero <;> simp [putR, mergeL, joinS, pickM, h]
  | x :: r, hs, hz => by
    obtain ⟨h1, h2⟩ := List.pairwise_cons.1 hs
    have hx0 : ¬ x.val = W.zero := hz x (by simp)
    have hzr : NoZ r := fun y hy => hz y (by simp [hy])
    have ih := putR_merge (k := k) (w := w) h2 hzr
    have hnil := mergeL_nil' (l := x :: r) hz
    have hnilr := mergeL_nil' (l := r) hzr
    unfold mergeL at ih hnil hnilr ⊢
    rw [joinS]
    dsimp only
    split
    · rename_i hlt
      have hne : ¬ x.key = k := fun e => by rw [e] at hlt; omega
      have hc : ¬ 0 < x.key.cmp k := fun h => by have := W.cmp_pos.1 h; omega
      rw [List.filterMap_cons_some (b := x) (by simp [pickM, hx0]), putR, if_neg hne, if_neg (fun h => hc h.2), ih]
    · split
      · rename_i hlt
        rw [putR_lt _ fun z hz => by
          rcases List.mem_cons.1 hz with rfl | hz
          · exact hlt
          · exact Nat.lt_trans hlt (h1 z hz)]
        by_cases hw : w = W.zero
        · rw [List.filterMap_cons_none (by simp [pickM, hw]), hnil]; simp [hw]
        · rw [List.filterMap_cons_some (b := ⟨k, w⟩) (by simp [pickM, hw]), hnil]; simp [hw]
      · rename_i n1 n2
        have he : x.key = k := W.num_inj (by omega)
        rw [putR, if_pos he, putR_lt _ fun z hz => by rw [← he]; exact h1 z hz]
        by_cases hw : w = W.zero
        · rw [List.filterMap_cons_none (by simp [pickM, hw]), hnilr]; simp [hw]
        · rw [List.filterMap_cons_some (b := ⟨k, w⟩) (by simp [pickM, hw]), hnilr]; simp [hw]
theorem putR_len (k w : W) : ∀ (l : List Sl) (d : Bool), (putR k w l d).length ≤ l.length + 1
  | [], d => by rw [putR]; split <;> simp
  | x :: r, d => by
    have h1 := putR_len k w r d
    have h2 := putR_len k w r true
    have h3 : (putR k w r true).length ≤ r.length := by
      clear h1 h2
      induction r with
      | nil => simp [putR]
      | cons y s ih =>
        rw [putR]
        split
        · simp; omega
        · rw [if_neg (by simp)]; simpa using ih
    rw [putR]
    split
    · simp; omega
    · split
      · simp; omega
      · simp; omega
theorem OutS.c {e : Nat} {l : List Sl} {v : Value} {N : Hp} (h : OutS e l v N) : OutC e 8 (slC l) l.length v N := by
  rcases h with ⟨rfl, rfl, rfl⟩ | ⟨b, c, h0, rfl, hc, rfl⟩
  · exact .inl ⟨rfl, rfl, rfl, rfl⟩
  · exact .inr ⟨b, c, List.length_pos_iff.2 h0, rfl, hc, slC_len l, rfl⟩
theorem OutC.s {e : Nat} {l : List Sl} {v : Value} {N : Hp} (h : OutC e 8 (slC l) l.length v N) : OutS e l v N := by
  rcases h with ⟨h0, _, rfl, rfl⟩ | ⟨b, c, h0, rfl, hc, _, rfl⟩
  · exact .inl ⟨List.length_eq_zero_iff.1 h0, rfl, rfl⟩
  · exact .inr ⟨b, c, List.length_pos_iff.1 h0, rfl, hc, rfl⟩
theorem subH_pre {A B : Hp} (h : subH A B) : ∀ (N : Hp), subH (N ++ A) (N ++ B)
  | [] => h
  | n :: r => by
    refine ⟨by simp [findE], ?_⟩
    simp only [List.cons_append, remE, if_true]
    exact subH_pre h r
def putsR (l m : List Sl) : List Sl := m.foldl (fun q x => putR x.key x.val q (decide (x.val = W.zero))) l
theorem putsR_succ (a s : List Sl) (x : Sl) : putsR a (s ++ [x]) = putR x.key x.val (putsR a s) (decide (x.val = W.zero)) := by
  unfold putsR; rw [List.foldl_append]; rfl
theorem putsR_eq {a : List Sl} (ha : Srt a) (hz : NoZ a) : ∀ (n : Nat) (s : List Sl), s.length = n → putsR a s = putsL a s
  | 0, s, h => by
    obtain rfl := List.length_eq_zero_iff.1 h
    rfl
  | n + 1, s, h => by
    obtain ⟨s', x, rfl⟩ : ∃ s' x, s = s' ++ [x] := ⟨s.dropLast, s.getLast (by intro e; rw [e] at h; simp at h), (List.dropLast_concat_getLast _).symm⟩
    have hl : s'.length = n := by simpa using h
    obtain ⟨h1, h2, _⟩ := putsL_ok ha hz n s' hl
    rw [putsL_succ, putsR_succ, putsR_eq ha hz n s' hl, putR_merge h1 h2]
theorem fresh_app {b : Nat} : ∀ {A B : Hp}, fresh b (A ++ B) → fresh b B
  | [], _, h => h
  | _ :: A, _, h => fresh_app (A := A) h.2.2
theorem subH_cons {a : Ent} {X : Hp} (h : fresh a.blk X) : subH (a :: X) X := by rw [subH_skip h]; exact subH_self X
end Go.Ev
namespace Go.Proofs.YtkhpncfgimlleaaGreat
open Go Go.Ev Go.Proofs
set_option maxRecDepth 100000
set_option maxHeartbeats 4000000
theorem app_slot {X No : Hp} {out : List Sl} {vo : Value} {b : Nat} {x : Sl} {K : Value → Hp → Prop} (ho : OutS 84 out vo No) (hb : fresh b (No ++ X)) (hn : out.length ≤ 100000)
    (hk : ∀ v' N', OutS 84 (out ++ [x]) v' N' → freshN N' (⟨b, 0, .vec 84 8 1, x.cells⟩ :: X) → K v' (N' ++ ⟨b, 0, .vec 84 8 1, x.cells⟩ :: X)) :
    evAppend Tryz.prog (⟨b, 0, .vec 84 8 1, x.cells⟩ :: (No ++ X)) 42 42 vo (.slice (some ⟨b, 0, none⟩) 1 1) K := by
  refine append_out1 (e := 84) (sz := 8) (by_ := 64) (n := out.length) (m := 1) (cs := slC out) (ys := x.cells) ho.c hb (by simp only [push_cast, Nat.reduceAdd, Nat.reduceSub, Nat.reduceMul, Nat.reduceLT, Nat.reduceLeDiff, Nat.reduceEqDiff, Nat.reduceMod, Nat.reduceDiv, Int.reduceAdd, Int.reduceSub, Int.reduceMul, Int.reduceLT, Int.reduceLE, Int.reduceEq, Int.reduceNeg, Int.reduceToNat, reduceIte, reduceCtorEq, Int.reduceBEq, Int.reduceBNe]) (by simp only [push_cast, Nat.reduceAdd, Nat.reduceSub, Nat.reduceMul, Nat.reduceLT, Nat.reduceLeDiff, Nat.reduceEqDiff, Nat.reduceMod, Nat.reduceDiv, Int.reduceAdd, Int.reduceSub, Int.reduceMul, Int.reduceLT, Int.reduceLE, Int.reduceEq, Int.reduceNeg, Int.reduceToNat, reduceIte, reduceCtorEq, Int.reduceBEq, Int.reduceBNe]) rfl rfl (by unfold two47; omega) fun v' N' h1 h2 => hk v' N' ?_ h2
  refine OutC.s ?_
  rw [slC_app, slC_one, List.length_append]
  exact h1
theorem slR_src {H : Hp} {l : List Sl} {v : Value} (h : SlR H l v) : srcL Tryz.prog H 42 v 8 = some (slC l, l.length) := by
  obtain ⟨e, n, he⟩ : ∃ e n, elemI Tryz.prog 42 = some (none, e, n) := ⟨8, true, by kernel_rfl⟩
  obtain ⟨p, c, rfl, rfl | ⟨b, o, rfl, h⟩⟩ := h
  · rcases p with _ | ⟨b, o, _ | sp⟩
    · rw [srcL_none, he]; rfl
    · rw [srcL_some, he]
      dsimp only
      cases hc : cellsAt H b o (([] : List Sl).length * 8) with
      | none => rfl
      | some cs =>
        have : cs = [] := by
          unfold cellsAt at hc
          split at hc
          · split at hc
            · unfold subL at hc
              split at hc
              · simpa using (Option.some.inj hc).symm
              · cases hc
            · cases hc
          · cases hc
        subst this
        rfl
    · unfold srcL; rw [he]; rfl
  · rw [srcL_some, he, h]
theorem refput_ok {Hf : Hp} {l : List Sl} {v : Value} {k w : W} (hv : SlH l v Hf) (hn : l.length ≤ 4000) : CallsV Tryz.prog 93 [v, k.v, w.v] Hf (OutS 84 (putR k w l (decide (w = W.zero)))) := by
  have hm := hv.marks
  have hr := hv.r
  obtain ⟨q, c, rfl, _⟩ := id hr
  refine callsO gB_ok Tryz.mix Tryz.pl93 Tryz.func93 rfl Tryz.ntmps93 Tryz.results93 rfl (by first | rfl | assumption) (Nat.le_of_ble_eq_true rfl) (by kernel_rfl) ?_
  simp only [push_cast, Nat.reduceAdd, Nat.reduceSub, Nat.reduceMul, Nat.reduceLT, Nat.reduceLeDiff, Nat.reduceEqDiff, Nat.reduceMod, Nat.reduceDiv, Int.reduceAdd, Int.reduceSub, Int.reduceMul, Int.reduceLT, Int.reduceLE, Int.reduceEq, Int.reduceNeg, Int.reduceToNat, reduceIte, reduceCtorEq, Int.reduceBEq, Int.reduceBNe]
  intro b4 hb4 b5 hb5
  try simp only [push_cast, Nat.reduceAdd, Nat.reduceSub, Nat.reduceMul, Nat.reduceLT, Nat.reduceLeDiff, Nat.reduceEqDiff, Nat.reduceMod, Nat.reduceDiv, Int.reduceAdd, Int.reduceSub, Int.reduceMul, Int.reduceLT, Int.reduceLE, Int.reduceEq, Int.reduceNeg, Int.reduceToNat, reduceIte, reduceCtorEq, Int.reduceBEq, Int.reduceBNe, hb4, hb5, W.zero_agg]
  obtain ⟨d0, hd0⟩ : ∃ d0, d0 = decide (w = W.zero) := ⟨_, rfl⟩
  rw [← hd0]
  refine loopO gB_ok (pl := Tryz.pl93) Tryz.mix (X := Nat × Bool × List Sl × Value × Hp)
    (fun s => ([(0, .slice q l.length c), (4, .pointer (some ⟨b4, 0, none⟩)), (5, .pointer (some ⟨b5, 0, none⟩)), (7, s.2.2.2.1), (8, .bool s.2.1), (9, .int .i64 s.1)], s.2.2.2.2 ++ ⟨b5, 0, .cel 29, w.cells⟩ :: ⟨b4, 0, .cel 29, k.cells⟩ :: Hf))
    (fun s => s.1 ≤ l.length ∧ OutS 84 s.2.2.1 s.2.2.2.1 s.2.2.2.2 ∧ freshN s.2.2.2.2 (⟨b5, 0, .cel 29, w.cells⟩ :: ⟨b4, 0, .cel 29, k.cells⟩ :: Hf) ∧ s.2.2.1 ++ putR k w (l.drop s.1) s.2.1 = putR k w l d0)
    (fun s => l.length - s.1) (0, d0, [], .slice none 0 0, []) ?_ ?_ (by kernel_rfl) ?_
  · exact ⟨Nat.zero_le _, .inl ⟨rfl, rfl, rfl⟩, trivial, rfl⟩
  · simp only [push_cast, Nat.reduceAdd, Nat.reduceSub, Nat.reduceMul, Nat.reduceLT, Nat.reduceLeDiff, Nat.reduceEqDiff, Nat.reduceMod, Nat.reduceDiv, Int.reduceAdd, Int.reduceSub, Int.reduceMul, Int.reduceLT, Int.reduceLE, Int.reduceEq, Int.reduceNeg, Int.reduceToNat, reduceIte, reduceCtorEq, Int.reduceBEq, Int.reduceBNe, hm]
  · rintro ⟨i, d, out, vo, No⟩ ⟨hi, ho, hf, hp⟩
    dsimp only at hi ho hf hp ⊢
    have hol : out.length ≤ l.length + 1 := by
      have := putR_len k w l d0
      have h2 := congrArg List.length hp
      rw [List.length_append] at h2
      omega
    have f5 : findE (No ++ ⟨b5, 0, .cel 29, w.cells⟩ :: ⟨b4, 0, .cel 29, k.cells⟩ :: Hf) b5 = some ⟨b5, 0, .cel 29, w.cells⟩ := by
      rw [findE_freshN hf (b := b5) (e := ⟨b5, 0, .cel 29, w.cells⟩) (by simp only [push_cast, Nat.reduceAdd, Nat.reduceSub, Nat.reduceMul, Nat.reduceLT, Nat.reduceLeDiff, Nat.reduceEqDiff, Nat.reduceMod, Nat.reduceDiv, Int.reduceAdd, Int.reduceSub, Int.reduceMul, Int.reduceLT, Int.reduceLE, Int.reduceEq, Int.reduceNeg, Int.reduceToNat, reduceIte, reduceCtorEq, Int.reduceBEq, Int.reduceBNe])]; simp only [push_cast, Nat.reduceAdd, Nat.reduceSub, Nat.reduceMul, Nat.reduceLT, Nat.reduceLeDiff, Nat.reduceEqDiff, Nat.reduceMod, Nat.reduceDiv, Int.reduceAdd, Int.reduceSub, Int.reduceMul, Int.reduceLT, Int.reduceLE, Int.reduceEq, Int.reduceNeg, Int.reduceToNat, reduceIte, reduceCtorEq, Int.reduceBEq, Int.reduceBNe]
    have f4 : findE (No ++ ⟨b5, 0, .cel 29, w.cells⟩ :: ⟨b4, 0, .cel 29, k.cells⟩ :: Hf) b4 = some ⟨b4, 0, .cel 29, k.cells⟩ := by
      rw [findE_freshN hf (b := b4) (e := ⟨b4, 0, .cel 29, k.cells⟩) (by simp only [push_cast, Nat.reduceAdd, Nat.reduceSub, Nat.reduceMul, Nat.reduceLT, Nat.reduceLeDiff, Nat.reduceEqDiff, Nat.reduceMod, Nat.reduceDiv, Int.reduceAdd, Int.reduceSub, Int.reduceMul, Int.reduceLT, Int.reduceLE, Int.reduceEq, Int.reduceNeg, Int.reduceToNat, reduceIte, reduceCtorEq, Int.reduceBEq, Int.reduceBNe, hb5])]; simp only [push_cast, Nat.reduceAdd, Nat.reduceSub, Nat.reduceMul, Nat.reduceLT, Nat.reduceLeDiff, Nat.reduceEqDiff, Nat.reduceMod, Nat.reduceDiv, Int.reduceAdd, Int.reduceSub, Int.reduceMul, Int.reduceLT, Int.reduceLE, Int.reduceEq, Int.reduceNeg, Int.reduceToNat, reduceIte, reduceCtorEq, Int.reduceBEq, Int.reduceBNe, hb5]
    rcases Nat.lt_or_ge i l.length with hlt | hge
    · obtain ⟨x, hx⟩ : ∃ x, l[i]? = some x := ⟨l[i], List.getElem?_eq_getElem hlt⟩
      obtain ⟨b, o, c', hc⟩ := hr.lies hlt
      cases hc
      obtain ⟨e, he, hg⟩ := hr.here (by rintro rfl; cases hlt)
      have hxi := hg i x hx
      have hf3 := fresh_find hb4 he
      have hf4 := fresh_find hb5.2.2 he
      have fb : findE (No ++ ⟨b5, 0, .cel 29, w.cells⟩ :: ⟨b4, 0, .cel 29, k.cells⟩ :: Hf) b = some e := by
        rw [findE_freshN hf (b := b) (by simp only [push_cast, Nat.reduceAdd, Nat.reduceSub, Nat.reduceMul, Nat.reduceLT, Nat.reduceLeDiff, Nat.reduceEqDiff, Nat.reduceMod, Nat.reduceDiv, Int.reduceAdd, Int.reduceSub, Int.reduceMul, Int.reduceLT, Int.reduceLE, Int.reduceEq, Int.reduceNeg, Int.reduceToNat, reduceIte, reduceCtorEq, Int.reduceBEq, Int.reduceBNe, hf3, hf4]; exact he)]; simp only [push_cast, Nat.reduceAdd, Nat.reduceSub, Nat.reduceMul, Nat.reduceLT, Nat.reduceLeDiff, Nat.reduceEqDiff, Nat.reduceMod, Nat.reduceDiv, Int.reduceAdd, Int.reduceSub, Int.reduceMul, Int.reduceLT, Int.reduceLE, Int.reduceEq, Int.reduceNeg, Int.reduceToNat, reduceIte, reduceCtorEq, Int.reduceBEq, Int.reduceBNe, hf3, hf4]; exact he
      rw [List.drop_eq_getElem_cons hlt, show l[i] = x from (List.getElem?_eq_some_iff.1 hx).2, putR] at hp
      by_cases h0 : x.key = k
      · have e1 : decide (x.key = k) = true := by simpa using h0
        rw [if_pos h0] at hp
        simp only [push_cast, Nat.reduceAdd, Nat.reduceSub, Nat.reduceMul, Nat.reduceLT, Nat.reduceLeDiff, Nat.reduceEqDiff, Nat.reduceMod, Nat.reduceDiv, Int.reduceAdd, Int.reduceSub, Int.reduceMul, Int.reduceLT, Int.reduceLE, Int.reduceEq, Int.reduceNeg, Int.reduceToNat, reduceIte, reduceCtorEq, Int.reduceBEq, Int.reduceBNe, hlt, f4, f5, fb, hxi, e1, wrap_i64' (show -9223372036854775808 ≤ (i : Int) + 1 ∧ (i : Int) + 1 ≤ 9223372036854775807 by omega)]
        refine ⟨(i + 1, d, out, vo, No), ⟨hlt, ho, hf, hp⟩, by dsimp only; omega, ?_⟩
        exact ⟨⟨rfl, rfl, rfl⟩, subH_self _, rfl⟩
      · have e1 : decide (x.key = k) = false := by simpa using h0
        rw [if_neg h0] at hp
        cases d with
        | true =>
          rw [if_neg (by simp)] at hp
          simp only [push_cast, Nat.reduceAdd, Nat.reduceSub, Nat.reduceMul, Nat.reduceLT, Nat.reduceLeDiff, Nat.reduceEqDiff, Nat.reduceMod, Nat.reduceDiv, Int.reduceAdd, Int.reduceSub, Int.reduceMul, Int.reduceLT, Int.reduceLE, Int.reduceEq, Int.reduceNeg, Int.reduceToNat, reduceIte, reduceCtorEq, Int.reduceBEq, Int.reduceBNe, hlt, f4, f5, fb, hxi, e1]
          intro b10 hb10
          refine app_slot ho hb10 (by omega) fun v' N' ho' hf' => ?_
          simp only [push_cast, Nat.reduceAdd, Nat.reduceSub, Nat.reduceMul, Nat.reduceLT, Nat.reduceLeDiff, Nat.reduceEqDiff, Nat.reduceMod, Nat.reduceDiv, Int.reduceAdd, Int.reduceSub, Int.reduceMul, Int.reduceLT, Int.reduceLE, Int.reduceEq, Int.reduceNeg, Int.reduceToNat, reduceIte, reduceCtorEq, Int.reduceBEq, Int.reduceBNe, wrap_i64' (show -9223372036854775808 ≤ (i : Int) + 1 ∧ (i : Int) + 1 ≤ 9223372036854775807 by omega)]
          refine ⟨(i + 1, true, out ++ [x], v', N'), ⟨hlt, ho', freshN_cons hf', by rw [List.append_assoc]; exact hp⟩, by dsimp only; omega, ⟨rfl, rfl, rfl⟩, subH_pre (subH_cons (fresh_app hb10)) _, ?_⟩
          simp only [marks_append, marksOf]
        | false =>
          rcases Int.lt_or_le 0 (x.key.cmp k) with hc | hc
          · rw [if_pos ⟨rfl, hc⟩] at hp
            simp only [push_cast, Nat.reduceAdd, Nat.reduceSub, Nat.reduceMul, Nat.reduceLT, Nat.reduceLeDiff, Nat.reduceEqDiff, Nat.reduceMod, Nat.reduceDiv, Int.reduceAdd, Int.reduceSub, Int.reduceMul, Int.reduceLT, Int.reduceLE, Int.reduceEq, Int.reduceNeg, Int.reduceToNat, reduceIte, reduceCtorEq, Int.reduceBEq, Int.reduceBNe, hlt, f4, f5, fb, hxi, e1, hc]
            intro b10 hb10
            refine app_slot (x := ⟨k, w⟩) ho hb10 (by omega) fun v' N' ho' hf' => ?_
            have fb' : findE (N' ++ ⟨b10, 0, .vec 84 8 1, Sl.cells ⟨k, w⟩⟩ :: ⟨b5, 0, .cel 29, w.cells⟩ :: ⟨b4, 0, .cel 29, k.cells⟩ :: Hf) b = some e := by
              have := (fresh_find hb10 fb).2
              rw [findE_freshN hf' (b := b) (e := e) (by simp only [push_cast, Nat.reduceAdd, Nat.reduceSub, Nat.reduceMul, Nat.reduceLT, Nat.reduceLeDiff, Nat.reduceEqDiff, Nat.reduceMod, Nat.reduceDiv, Int.reduceAdd, Int.reduceSub, Int.reduceMul, Int.reduceLT, Int.reduceLE, Int.reduceEq, Int.reduceNeg, Int.reduceToNat, reduceIte, reduceCtorEq, Int.reduceBEq, Int.reduceBNe, hf3, hf4, this]; exact he)]; simp only [push_cast, Nat.reduceAdd, Nat.reduceSub, Nat.reduceMul, Nat.reduceLT, Nat.reduceLeDiff, Nat.reduceEqDiff, Nat.reduceMod, Nat.reduceDiv, Int.reduceAdd, Int.reduceSub, Int.reduceMul, Int.reduceLT, Int.reduceLE, Int.reduceEq, Int.reduceNeg, Int.reduceToNat, reduceIte, reduceCtorEq, Int.reduceBEq, Int.reduceBNe, hf3, hf4, this]; exact he
            simp only [push_cast, Nat.reduceAdd, Nat.reduceSub, Nat.reduceMul, Nat.reduceLT, Nat.reduceLeDiff, Nat.reduceEqDiff, Nat.reduceMod, Nat.reduceDiv, Int.reduceAdd, Int.reduceSub, Int.reduceMul, Int.reduceLT, Int.reduceLE, Int.reduceEq, Int.reduceNeg, Int.reduceToNat, reduceIte, reduceCtorEq, Int.reduceBEq, Int.reduceBNe, hlt, fb', hxi]
            intro b11 hb11
            refine app_slot (x := x) ho' hb11 (by simp; omega) fun v'' N'' ho'' hf'' => ?_
            simp only [push_cast, Nat.reduceAdd, Nat.reduceSub, Nat.reduceMul, Nat.reduceLT, Nat.reduceLeDiff, Nat.reduceEqDiff, Nat.reduceMod, Nat.reduceDiv, Int.reduceAdd, Int.reduceSub, Int.reduceMul, Int.reduceLT, Int.reduceLE, Int.reduceEq, Int.reduceNeg, Int.reduceToNat, reduceIte, reduceCtorEq, Int.reduceBEq, Int.reduceBNe, wrap_i64' (show -9223372036854775808 ≤ (i : Int) + 1 ∧ (i : Int) + 1 ≤ 9223372036854775807 by omega)]
            refine ⟨(i + 1, true, out ++ [⟨k, w⟩] ++ [x], v'', N''), ⟨hlt, ho'', freshN_cons (freshN_cons hf''), by rw [List.append_assoc, List.append_assoc]; exact hp⟩, by dsimp only; omega, ⟨rfl, rfl, rfl⟩, subH_pre ?_ _, ?_⟩
            · rw [subH_skip (e := ⟨b11, 0, .vec 84 8 1, x.cells⟩) (fresh_app hb11).2.2]
              exact subH_cons (fresh_app hb10)
            · simp only [marks_append, marksOf]
          · have hc' : ¬ 0 < x.key.cmp k := by omega
            rw [if_neg fun h => hc' h.2] at hp
            simp only [push_cast, Nat.reduceAdd, Nat.reduceSub, Nat.reduceMul, Nat.reduceLT, Nat.reduceLeDiff, Nat.reduceEqDiff, Nat.reduceMod, Nat.reduceDiv, Int.reduceAdd, Int.reduceSub, Int.reduceMul, Int.reduceLT, Int.reduceLE, Int.reduceEq, Int.reduceNeg, Int.reduceToNat, reduceIte, reduceCtorEq, Int.reduceBEq, Int.reduceBNe, hlt, f4, f5, fb, hxi, e1, hc']
            intro b10 hb10
            refine app_slot ho hb10 (by omega) fun v' N' ho' hf' => ?_
            simp only [push_cast, Nat.reduceAdd, Nat.reduceSub, Nat.reduceMul, Nat.reduceLT, Nat.reduceLeDiff, Nat.reduceEqDiff, Nat.reduceMod, Nat.reduceDiv, Int.reduceAdd, Int.reduceSub, Int.reduceMul, Int.reduceLT, Int.reduceLE, Int.reduceEq, Int.reduceNeg, Int.reduceToNat, reduceIte, reduceCtorEq, Int.reduceBEq, Int.reduceBNe, wrap_i64' (show -9223372036854775808 ≤ (i : Int) + 1 ∧ (i : Int) + 1 ≤ 9223372036854775807 by omega)]
            refine ⟨(i + 1, false, out ++ [x], v', N'), ⟨hlt, ho', freshN_cons hf', by rw [List.append_assoc]; exact hp⟩, by dsimp only; omega, ⟨rfl, rfl, rfl⟩, subH_pre (subH_cons (fresh_app hb10)) _, ?_⟩
            simp only [marks_append, marksOf]
    · have e2 : ¬ i < l.length := by omega
      rw [List.drop_of_length_le hge] at hp
      cases d with
      | true =>
        simp only [push_cast, Nat.reduceAdd, Nat.reduceSub, Nat.reduceMul, Nat.reduceLT, Nat.reduceLeDiff, Nat.reduceEqDiff, Nat.reduceMod, Nat.reduceDiv, Int.reduceAdd, Int.reduceSub, Int.reduceMul, Int.reduceLT, Int.reduceLE, Int.reduceEq, Int.reduceNeg, Int.reduceToNat, reduceIte, reduceCtorEq, Int.reduceBEq, Int.reduceBNe, e2]
        refine ⟨No, (by rw [dropM_eq (by simp only [marks_append, marksOf, ho.wr.2, hm, List.append_nil])]; exact List.sublist_append_left _ _), ?_⟩
        rw [← hp]
        simpa [putR] using ho
      | false =>
        simp only [push_cast, Nat.reduceAdd, Nat.reduceSub, Nat.reduceMul, Nat.reduceLT, Nat.reduceLeDiff, Nat.reduceEqDiff, Nat.reduceMod, Nat.reduceDiv, Int.reduceAdd, Int.reduceSub, Int.reduceMul, Int.reduceLT, Int.reduceLE, Int.reduceEq, Int.reduceNeg, Int.reduceToNat, reduceIte, reduceCtorEq, Int.reduceBEq, Int.reduceBNe, e2, f4, f5]
        intro b10 hb10
        refine app_slot (x := ⟨k, w⟩) ho hb10 (by omega) fun v' N' ho' hf' => ?_
        simp only [push_cast, Nat.reduceAdd, Nat.reduceSub, Nat.reduceMul, Nat.reduceLT, Nat.reduceLeDiff, Nat.reduceEqDiff, Nat.reduceMod, Nat.reduceDiv, Int.reduceAdd, Int.reduceSub, Int.reduceMul, Int.reduceLT, Int.reduceLE, Int.reduceEq, Int.reduceNeg, Int.reduceToNat, reduceIte, reduceCtorEq, Int.reduceBEq, Int.reduceBNe]
        refine ⟨N', (by rw [dropM_eq (by simp only [marks_append, marksOf, ho'.wr.2, hm, List.append_nil])]; exact List.sublist_append_left _ _), ?_⟩
        rw [← hp]
        exact ho'
theorem refMerge_ok {Hf : Hp} {l m : List Sl} {v u : Value} (hm : marksOf Hf = []) (h1 : SlR Hf l v) (h2 : SlR Hf m u) (hn : l.length ≤ 2000) (hn2 : m.length ≤ 2000) (hd : derE Hf Hf) :
    CallsV Tryz.prog 82 [v, u] Hf (OutE 84 (mergeR l m)) := by
  obtain ⟨q1, c1, rfl, _⟩ := id h1
  obtain ⟨q2, c2, rfl, _⟩ := id h2
  obtain ⟨L, l1, l2⟩ := h1.h
  obtain ⟨M, m1, m2⟩ := h2.h
  refine callsO gB_ok Tryz.mix Tryz.pl82 Tryz.func82 rfl Tryz.ntmps82 Tryz.results82 rfl (by first | rfl | assumption) (Nat.le_of_ble_eq_true rfl) (by kernel_rfl) ?_
  simp only [push_cast, Nat.reduceAdd, Nat.reduceSub, Nat.reduceMul, Nat.reduceLT, Nat.reduceLeDiff, Nat.reduceEqDiff, Nat.reduceMod, Nat.reduceDiv, Int.reduceAdd, Int.reduceSub, Int.reduceMul, Int.reduceLT, Int.reduceLE, Int.reduceEq, Int.reduceNeg, Int.reduceToNat, reduceIte, reduceCtorEq, Int.reduceBEq, Int.reduceBNe]
  refine (refRight_ok l1 (by omega)).pure l2 ?_
  simp only [push_cast, Nat.reduceAdd, Nat.reduceSub, Nat.reduceMul, Nat.reduceLT, Nat.reduceLeDiff, Nat.reduceEqDiff, Nat.reduceMod, Nat.reduceDiv, Int.reduceAdd, Int.reduceSub, Int.reduceMul, Int.reduceLT, Int.reduceLE, Int.reduceEq, Int.reduceNeg, Int.reduceToNat, reduceIte, reduceCtorEq, Int.reduceBEq, Int.reduceBNe]
  cases hr : rightB l with
  | false =>
    simp only [push_cast, Nat.reduceAdd, Nat.reduceSub, Nat.reduceMul, Nat.reduceLT, Nat.reduceLeDiff, Nat.reduceEqDiff, Nat.reduceMod, Nat.reduceDiv, Int.reduceAdd, Int.reduceSub, Int.reduceMul, Int.reduceLT, Int.reduceLE, Int.reduceEq, Int.reduceNeg, Int.reduceToNat, reduceIte, reduceCtorEq, Int.reduceBEq, Int.reduceBNe]
    exact ⟨[], List.nil_sublist _, _, by simp [mergeR, hr], .inl ⟨by simp [mergeR, hr], rfl, rfl⟩⟩
  | true =>
  simp only [push_cast, Nat.reduceAdd, Nat.reduceSub, Nat.reduceMul, Nat.reduceLT, Nat.reduceLeDiff, Nat.reduceEqDiff, Nat.reduceMod, Nat.reduceDiv, Int.reduceAdd, Int.reduceSub, Int.reduceMul, Int.reduceLT, Int.reduceLE, Int.reduceEq, Int.reduceNeg, Int.reduceToNat, reduceIte, reduceCtorEq, Int.reduceBEq, Int.reduceBNe]
  refine (refPatch_ok m1 (by omega)).pure m2 ?_
  simp only [push_cast, Nat.reduceAdd, Nat.reduceSub, Nat.reduceMul, Nat.reduceLT, Nat.reduceLeDiff, Nat.reduceEqDiff, Nat.reduceMod, Nat.reduceDiv, Int.reduceAdd, Int.reduceSub, Int.reduceMul, Int.reduceLT, Int.reduceLE, Int.reduceEq, Int.reduceNeg, Int.reduceToNat, reduceIte, reduceCtorEq, Int.reduceBEq, Int.reduceBNe]
  cases hp : patchB m with
  | false =>
    simp only [push_cast, Nat.reduceAdd, Nat.reduceSub, Nat.reduceMul, Nat.reduceLT, Nat.reduceLeDiff, Nat.reduceEqDiff, Nat.reduceMod, Nat.reduceDiv, Int.reduceAdd, Int.reduceSub, Int.reduceMul, Int.reduceLT, Int.reduceLE, Int.reduceEq, Int.reduceNeg, Int.reduceToNat, reduceIte, reduceCtorEq, Int.reduceBEq, Int.reduceBNe]
    exact ⟨[], List.nil_sublist _, _, by simp [mergeR, hr, hp], .inl ⟨by simp [mergeR, hr, hp], rfl, rfl⟩⟩
  | true =>
  have ln1 := rightB_len hr
  have ln2 := patchB_len hp
  have rl := rightB_iff.1 hr
  have sm := (patchB_iff.1 hp).2
  have hsrc : srcL Tryz.prog Hf 42 (.slice q1 l.length c1) 8 = some (slC l, l.length) := slR_src h1
  simp only [push_cast, Nat.reduceAdd, Nat.reduceSub, Nat.reduceMul, Nat.reduceLT, Nat.reduceLeDiff, Nat.reduceEqDiff, Nat.reduceMod, Nat.reduceDiv, Int.reduceAdd, Int.reduceSub, Int.reduceMul, Int.reduceLT, Int.reduceLE, Int.reduceEq, Int.reduceNeg, Int.reduceToNat, reduceIte, reduceCtorEq, Int.reduceBEq, Int.reduceBNe, hsrc]
  refine (fun rest => ?main : ((T : Tm) → (H : Hp) → (∃ vo No, OutS 84 l vo No ∧ freshN No Hf ∧ subT T [(1, .slice q2 m.length c2), (6, vo), (7, .int .i64 0)] ∧ subH H (No ++ Hf) ∧ marksOf H = []) → WpV Tryz.prog none 40 (.loop ?c) ?K T H) → _) ?rest
  case main =>
    refine ⟨fun h0 => ?_, fun h0 => ⟨by unfold two47; omega, fun b c' hb hc' => ?_⟩⟩
    · refine rest _ _ ?_
      refine ⟨_, [], .inl ⟨List.length_eq_zero_iff.1 h0, rfl, rfl⟩, trivial, ?_, subH_self _, hm⟩
      simp only [push_cast, Nat.reduceAdd, Nat.reduceSub, Nat.reduceMul, Nat.reduceLT, Nat.reduceLeDiff, Nat.reduceEqDiff, Nat.reduceMod, Nat.reduceDiv, Int.reduceAdd, Int.reduceSub, Int.reduceMul, Int.reduceLT, Int.reduceLE, Int.reduceEq, Int.reduceNeg, Int.reduceToNat, reduceIte, reduceCtorEq, Int.reduceBEq, Int.reduceBNe]
    · refine rest _ _ ?_
      refine ⟨_, [_], .inr ⟨b, c', List.length_pos_iff.1 h0, rfl, hc', rfl⟩, ⟨hb, trivial⟩, ?_, subH_self _, hm⟩
      simp only [push_cast, Nat.reduceAdd, Nat.reduceSub, Nat.reduceMul, Nat.reduceLT, Nat.reduceLeDiff, Nat.reduceEqDiff, Nat.reduceMod, Nat.reduceDiv, Int.reduceAdd, Int.reduceSub, Int.reduceMul, Int.reduceLT, Int.reduceLE, Int.reduceEq, Int.reduceNeg, Int.reduceToNat, reduceIte, reduceCtorEq, Int.reduceBEq, Int.reduceBNe]
  case rest =>
    rintro T H ⟨vo, No, ho, hf, hT, hH, hmH⟩
    refine loopO gB_ok (pl := Tryz.pl82) Tryz.mix (X := Nat × Value × Hp)
      (fun s => ([(1, .slice q2 m.length c2), (6, s.2.1), (7, .int .i64 s.1)], s.2.2 ++ Hf))
      (fun s => s.1 ≤ m.length ∧ OutS 84 (putsR l (m.take s.1)) s.2.1 s.2.2 ∧ freshN s.2.2 Hf) (fun s => m.length - s.1) (0, vo, No) ?_ ?_ (by kernel_rfl) ?_
    · exact ⟨Nat.zero_le _, ho, hf⟩
    · exact ⟨hT, hH, by rw [hmH, marks_append, ho.wr.2, hm]; rfl⟩
    · rintro ⟨k, vo, No⟩ ⟨hk, ho, hf⟩
      dsimp only at hk ho hf ⊢
      clear hT hH hmH
      obtain ⟨iq1, iq2, iq3⟩ := putsL_ok rl.srt rl.noz k (m.take k) (by simp; omega)
      rw [← putsR_eq rl.srt rl.noz k (m.take k) (by simp; omega)] at iq1 iq2 iq3
      rcases Nat.lt_or_ge k m.length with hlt | hge
      · obtain ⟨x, hx⟩ : ∃ x, m[k]? = some x := ⟨m[k], List.getElem?_eq_getElem hlt⟩
        have tq : m.take (k + 1) = m.take k ++ [x] := by rw [List.take_add_one, hx]; rfl
        obtain ⟨b2, o2, c2', hc⟩ := h2.lies hlt
        cases hc
        obtain ⟨e2, he2, hg2⟩ := h2.here (by rintro rfl; cases hlt)
        have hxk := hg2 k x hx
        have fb : findE (No ++ Hf) b2 = some e2 := by rw [findE_freshN hf he2]; exact he2
        simp only [push_cast, Nat.reduceAdd, Nat.reduceSub, Nat.reduceMul, Nat.reduceLT, Nat.reduceLeDiff, Nat.reduceEqDiff, Nat.reduceMod, Nat.reduceDiv, Int.reduceAdd, Int.reduceSub, Int.reduceMul, Int.reduceLT, Int.reduceLE, Int.reduceEq, Int.reduceNeg, Int.reduceToNat, reduceIte, reduceCtorEq, Int.reduceBEq, Int.reduceBNe, hlt, fb, hxk]
        obtain ⟨Ho, ho1, ho2⟩ := (ho.r (H := Hf)).h
        refine (refput_ok ho1 (by omega)).use ho2 ?_
        intro v' N' ho'
        refine ⟨ho'.wr.1, ho'.wr.2, fun hf' => ?_⟩
        have hsub := subH_new (No ++ Hf) N' fun e he x hx => freshN_ne hf' e he x hx
        simp only [push_cast, Nat.reduceAdd, Nat.reduceSub, Nat.reduceMul, Nat.reduceLT, Nat.reduceLeDiff, Nat.reduceEqDiff, Nat.reduceMod, Nat.reduceDiv, Int.reduceAdd, Int.reduceSub, Int.reduceMul, Int.reduceLT, Int.reduceLE, Int.reduceEq, Int.reduceNeg, Int.reduceToNat, reduceIte, reduceCtorEq, Int.reduceBEq, Int.reduceBNe, hsub, wrap_i64' (show -9223372036854775808 ≤ (k : Int) + 1 ∧ (k : Int) + 1 ≤ 9223372036854775807 by omega)]
        refine ⟨(k + 1, v', N'), ⟨hlt, by rw [tq, putsR_succ]; exact ho', freshN_app hf'⟩, by dsimp only; omega, ⟨rfl, rfl⟩, subH_pre (subH_new Hf No fun e he x hx => freshN_ne hf e he x hx) _, ?_⟩
        simp only [marks_append, marksOf, ho.wr.2, ho'.wr.2, List.nil_append]
      · have e2 : ¬ k < m.length := by omega
        obtain ⟨p, c, rfl⟩ := ho.c.slice
        rw [List.take_of_length_le hge, putsR_eq rl.srt rl.noz m.length m rfl, puts_merge rl sm] at ho iq3
        rw [List.take_of_length_le hge, putsR_eq rl.srt rl.noz m.length m rfl, puts_merge rl sm]
        have hmr : mergeR l m = limR (mergeL l m) := by simp [mergeR, hr, hp]
        have hdm : dropM (No ++ Hf) = No ++ Hf := dropM_eq (by simp only [marks_append, marksOf, ho.wr.2, hm, List.append_nil])
        rcases Nat.lt_or_ge 1000 (mergeL l m).length with h | h
        · have h' : (1000 : Int) < ((mergeL l m).length : Int) := by omega
          simp only [push_cast, Nat.reduceAdd, Nat.reduceSub, Nat.reduceMul, Nat.reduceLT, Nat.reduceLeDiff, Nat.reduceEqDiff, Nat.reduceMod, Nat.reduceDiv, Int.reduceAdd, Int.reduceSub, Int.reduceMul, Int.reduceLT, Int.reduceLE, Int.reduceEq, Int.reduceNeg, Int.reduceToNat, reduceIte, reduceCtorEq, Int.reduceBEq, Int.reduceBNe, e2, h', hmr, limR, h]
          exact ⟨[], List.nil_sublist _, _, rfl, .inl ⟨rfl, rfl, rfl⟩⟩
        · have h' : ¬ (1000 : Int) < ((mergeL l m).length : Int) := by omega
          simp only [push_cast, Nat.reduceAdd, Nat.reduceSub, Nat.reduceMul, Nat.reduceLT, Nat.reduceLeDiff, Nat.reduceEqDiff, Nat.reduceMod, Nat.reduceDiv, Int.reduceAdd, Int.reduceSub, Int.reduceMul, Int.reduceLT, Int.reduceLE, Int.reduceEq, Int.reduceNeg, Int.reduceToNat, reduceIte, reduceCtorEq, Int.reduceBEq, Int.reduceBNe, e2, h', hmr, limR, Nat.not_lt.2 h, hdm]
          exact ⟨No, List.sublist_append_left _ _, _, rfl, ho⟩
end Go.Proofs.YtkhpncfgimlleaaGreat
