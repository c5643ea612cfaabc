/- Texts of this claim, merged by program: EvQ. -/
import Derived.Test.YtpcjmmdgopihcaaGreatDoorZgAc
set_option linter.unusedSimpArgs false
set_option linter.unusedVariables false
namespace Go.Ev
theorem subH_self : ∀ (H : Hp), subH H H
 | [] => trivial
 | e :: r => ⟨by simp [findE], by simpa [remE] using subH_self r⟩
theorem subH_cons {a : Ent} {X : Hp} (h : fresh a.blk X) : subH (a :: X) X := by
 have hs : ∀ (L Y : Hp), fresh a.blk Y → subH L Y → subH (a :: L) Y := fun L Y => by
  induction Y generalizing L with
  | nil => intro _ _; exact trivial
  | cons e r ih =>
    intro hf hh
    refine ⟨by simp only [findE]; rw [if_neg hf.2.1]; exact hh.1, ?_⟩
    simp only [remE]
    rw [if_neg hf.2.1]
    exact ih _ hf.2.2 hh.2
 exact hs X X h (subH_self X)
theorem fresh_app {b : Nat} : ∀ {A B : Hp}, fresh b (A ++ B) → fresh b B
 | [], _, h => h
 | _ :: A, _, h => fresh_app (A := A) h.2.2
theorem subH_pre {A B : Hp} (h : subH A B) : ∀ (N : Hp), subH (N ++ A) (N ++ B)
 | [] => h
 | n :: r => by
   refine ⟨by simp [findE], ?_⟩
   simp only [List.cons_append, remE, if_true]
   exact subH_pre h r
end Go.Ev
