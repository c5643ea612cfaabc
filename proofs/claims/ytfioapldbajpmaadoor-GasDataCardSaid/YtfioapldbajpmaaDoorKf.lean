/- Kf: the document's set of keys is in order; plain facts. -/
import Derived.Test.YtfioapldbajpmaaDoorKe
set_option linter.unusedSimpArgs false
set_option linter.unusedVariables false
namespace Go.Ev
def SortK (l : List KeyT) : Prop := l.Pairwise fun x y => x.num < y.num
noncomputable def insK (k : KeyT) : List KeyT → List KeyT
  | [] => [k]
  | x :: r => if x.num < k.num then x :: insK k r else if k.num < x.num then k :: x :: r else x :: r
theorem foldP_true (k : KeyT) : ∀ (l acc : List KeyT), (∀ x ∈ l, k.num < x.num) → l.foldl (stepP k) (acc, true) = (acc ++ l, true)
  | [], acc, _ => by simp
  | x :: r, acc, h => by
    have hx := h x (List.mem_cons_self ..)
    have : stepP k (acc, true) x = (acc ++ [x], true) := by
      unfold stepP
      rw [ordI_lt hx]
      simp
    rw [List.foldl_cons, this, foldP_true k r _ fun y hy => h y (List.mem_cons_of_mem _ hy), List.append_assoc]; rfl
theorem foldP_ins (k : KeyT) : ∀ (l acc : List KeyT), SortK l → (if (l.foldl (stepP k) (acc, false)).2 then (l.foldl (stepP k) (acc, false)).1 else (l.foldl (stepP k) (acc, false)).1 ++ [k]) = acc ++ insK k l
  | [], acc, _ => by simp [insK]
  | x :: r, acc, h => by
    obtain ⟨h1, h2⟩ := List.pairwise_cons.1 h
    unfold insK
    rw [List.foldl_cons]
    rcases Nat.lt_trichotomy x.num k.num with hlt | heq | hgt
    · have : stepP k (acc, false) x = (acc ++ [x], false) := by
        unfold stepP
        rw [ordI_gt hlt]
        simp
      rw [this, foldP_ins k r _ h2, if_pos hlt, List.append_assoc]; rfl
    · have : stepP k (acc, false) x = (acc ++ [x], true) := by
        have h0 : ordI k x = 0 := by unfold ordI; rw [if_neg (by omega), if_neg (by omega)]
        unfold stepP
        rw [h0]
        simp
      rw [this, foldP_true k r _ fun y hy => by rw [← heq]; exact h1 y hy]
      dsimp only
      rw [if_pos rfl, if_neg (by omega), if_neg (by omega)]
      simp
    · have : stepP k (acc, false) x = (acc ++ [k] ++ [x], true) := by
        unfold stepP
        rw [ordI_lt hgt]
        simp
      rw [this, foldP_true k r _ fun y hy => Nat.lt_trans hgt (h1 y hy)]
      dsimp only
      rw [if_pos rfl, if_neg (by omega), if_pos hgt]
      simp
theorem putK_ins {k : KeyT} {l : List KeyT} (h : SortK l) : putK l k = insK k l := by
  have := foldP_ins k l [] h
  unfold putK foldP
  rw [this]; rfl
theorem insK_mem {k x : KeyT} : ∀ {l : List KeyT}, x ∈ insK k l → x = k ∨ x ∈ l
  | [], h => by simp [insK] at h; exact .inl h
  | y :: r, h => by
    unfold insK at h
    split at h
    · rcases List.mem_cons.1 h with h | h
      · exact .inr (by rw [h]; exact List.mem_cons_self ..)
      · exact (insK_mem h).imp id fun h => List.mem_cons_of_mem _ h
    · split at h
      · rcases List.mem_cons.1 h with h | h
        · exact .inl h
        · exact .inr h
      · exact .inr h
theorem insK_sort {k : KeyT} : ∀ {l : List KeyT}, SortK l → SortK (insK k l)
  | [], _ => List.pairwise_singleton ..
  | y :: r, h => by
    obtain ⟨h1, h2⟩ := List.pairwise_cons.1 h
    unfold insK
    split
    · rename_i hlt
      refine List.pairwise_cons.2 ⟨fun x hx => ?_, insK_sort h2⟩
      rcases insK_mem hx with rfl | hx
      · exact hlt
      · exact h1 x hx
    · split
      · rename_i hgt
        refine List.pairwise_cons.2 ⟨fun x hx => ?_, h⟩
        rcases List.mem_cons.1 hx with rfl | hx
        · exact hgt
        · exact Nat.lt_trans hgt (h1 x hx)
      · exact h
end Go.Ev
namespace Go.Proofs.YtfioapldbajpmaaDoor
open Go Go.Ev Go.Proofs
theorem setK_sort (l : List KeyT) : SortK (setK l) := by
  have h : ∀ (l s : List KeyT), SortK s → SortK (l.foldl putK s) := by
    intro l
    induction l with
    | nil => intro s h; exact h
    | cons x r ih =>
      intro s h
      rw [List.foldl_cons, putK_ins h]
      exact ih _ (insK_sort h)
  exact h l [] List.Pairwise.nil
end Go.Proofs.YtfioapldbajpmaaDoor
namespace Go.Ev
theorem SortK.nodup {l : List KeyT} (h : SortK l) : l.Nodup := List.Pairwise.imp (fun {a b} hab he => by rw [he] at hab; exact absurd hab (Nat.lt_irrefl _)) h
theorem nodup_sub {α : Type} [DecidableEq α] : ∀ {l m : List α}, l.Nodup → (∀ x ∈ l, x ∈ m) → l.length ≤ m.length
  | [], _, _, _ => Nat.zero_le _
  | x :: r, m, h, hs => by
    obtain ⟨h1, h2⟩ := List.nodup_cons.1 h
    have hx := hs x (List.mem_cons_self ..)
    have := nodup_sub (l := r) (m := m.erase x) h2 fun y hy => (List.mem_erase_of_ne fun e => h1 (by rw [← e]; exact hy)).2 (hs y (List.mem_cons_of_mem _ hy))
    rw [List.length_erase_of_mem hx] at this
    have hpos := List.length_pos_of_mem hx
    rw [List.length_cons]; omega
end Go.Ev
