/- Gs: plain facts of what is declared; two lists appended in both orders, whichever comes first. -/
import Derived.Test.YtfioapldbajpmaaDoorKf
import Derived.Test.YtfioapldbajpmaaDoorEvT
import Derived.Test.YtfioapldbajpmaaDoorGp
import Derived.Test.YtfioapldbajpmaaDoorGj
set_option linter.unusedSimpArgs false
set_option linter.unusedVariables false
namespace Go.Ev
theorem declF_mem : ∀ (l : List KeyT) (s : Nat × List KeyT) (k : KeyT), k ∈ s.2 ∨ k ∈ l → k ∈ (l.foldl stepD s).2
  | [], s, k, h => h.elim id fun h => by cases h
  | x :: r, s, k, h => by
    rw [List.foldl_cons]
    refine declF_mem r _ k ?_
    unfold stepD
    rcases h with h | h
    · left; split
      · exact h
      · exact List.mem_append_left _ h
    · rcases List.mem_cons.1 h with rfl | h
      · left; split
        · assumption
        · exact List.mem_append_right _ (List.mem_singleton.2 rfl)
      · exact .inr h
theorem declF_same : ∀ (l : List KeyT) (s : Nat × List KeyT), (∀ k ∈ l, k ∈ s.2) → l.foldl stepD s = s
  | [], s, _ => rfl
  | x :: r, s, h => by
    have : stepD s x = s := by unfold stepD; rw [if_pos (h x (List.mem_cons_self ..))]
    rw [List.foldl_cons, this]
    exact declF_same r s fun k hk => h k (List.mem_cons_of_mem _ hk)
theorem declI_twice (R W' : List KeyT) : declI (R ++ W') (W' ++ R) = declI R W' := by
  rw [declI_eq, declI_eq]
  unfold declS
  rw [List.foldl_append (l' := W' ++ R), declF_same (W' ++ R)]
  intro k hk
  refine declF_mem _ _ k (.inr ?_)
  rcases List.mem_append.1 hk with h | h
  · exact List.mem_append_right _ h
  · exact List.mem_append_left _ h
theorem declF_low : ∀ (l : List KeyT) (s : Nat × List KeyT), 1900 * s.2.length ≤ s.1 → 1900 * (l.foldl stepD s).2.length ≤ (l.foldl stepD s).1
  | [], _, h => h
  | x :: r, s, h => by
    rw [List.foldl_cons]
    refine declF_low r _ ?_
    unfold stepD costK
    split
    · exact h
    · simp only [List.length_append, List.length_singleton]
      split <;> omega
theorem declI_low {R W' : List KeyT} (hr : R.Nodup) (hw : W'.Nodup) : 1900 * R.length ≤ declI R W' ∧ 1900 * W'.length ≤ declI R W' := by
  rw [declI_eq]
  have h1 := declF_low (R ++ W') (0, []) (Nat.zero_le _)
  have h2 : R.length ≤ (declS (R ++ W')).2.length := nodup_sub hr fun x hx => declF_mem _ _ x (.inr (List.mem_append_left _ hx))
  have h3 : W'.length ≤ (declS (R ++ W')).2.length := nodup_sub hw fun x hx => declF_mem _ _ x (.inr (List.mem_append_right _ hx))
  unfold declS at h2 h3 ⊢
  exact ⟨by omega, by omega⟩
theorem declI_high (R W' : List KeyT) : declI R W' ≤ 2400 * (R.length + W'.length) := by
  rw [declI_eq]
  have := (declS_le (R ++ W')).1
  rwa [List.length_append] at this
end Go.Ev
