/- EvP: a list that grows: what append does to it, whether it is nil or not. -/
import Derived.Test.YtndioekjgmbomaaDoorEvZ
set_option linter.unusedSimpArgs false
set_option linter.unusedVariables false
namespace Go.Ev
/-- v is the slice of n elements of s cells each, cs are their cells, N is the memory that is its own -/
def OutC (e s : Nat) (cs : List Value) (n : Nat) (v : Value) (N : Hp) : Prop :=
  (n = 0 ∧ cs = [] ∧ v = .slice none 0 0 ∧ N = []) ∨ ∃ b c, 0 < n ∧ v = .slice (some ⟨b, 0, none⟩) n c ∧ n ≤ c ∧ cs.length = n * s ∧ N = [⟨b, 0, .vec e s c, cs⟩]
theorem OutC.nil (e s : Nat) : OutC e s [] 0 (.slice none 0 0) [] := .inl ⟨rfl, rfl, rfl, rfl⟩
theorem OutC.len {e s n : Nat} {cs : List Value} {v : Value} {N : Hp} (h : OutC e s cs n v N) : cs.length = n * s := by
  rcases h with ⟨rfl, rfl, _, _⟩ | ⟨b, c, _, _, _, h, _⟩
  · simp
  · exact h
theorem OutC.wr {e s n : Nat} {cs : List Value} {v : Value} {N : Hp} (h : OutC e s cs n v N) : allWr N ∧ marksOf N = [] := by
  rcases h with ⟨_, _, _, rfl⟩ | ⟨b, c, _, _, _, _, rfl⟩
  · exact ⟨trivial, rfl⟩
  · exact ⟨⟨trivial, trivial⟩, rfl⟩
theorem OutC.slice {e s n : Nat} {cs : List Value} {v : Value} {N : Hp} (h : OutC e s cs n v N) : ∃ p c, v = .slice p n c := by
  rcases h with ⟨rfl, _, rfl, _⟩ | ⟨b, c, _, rfl, _, _, _⟩
  · exact ⟨_, _, rfl⟩
  · exact ⟨_, _, rfl⟩
/-- its cells, as they lie in memory -/
theorem OutC.at {e s n : Nat} {cs : List Value} {v : Value} {N : Hp} (h : OutC e s cs n v N) (X : Hp) : ∃ p c, v = .slice p n c ∧ (n = 0 ∨ ∃ b, p = some ⟨b, 0, none⟩ ∧ cellsAt (N ++ X) b 0 (n * s) = some cs) := by
  rcases h with ⟨rfl, _, rfl, _⟩ | ⟨b, c, _, rfl, _, h, rfl⟩
  · exact ⟨_, _, rfl, .inl rfl⟩
  · refine ⟨_, _, rfl, .inr ⟨b, rfl, ?_⟩⟩
    simp only [cellsAt, List.cons_append, findE, if_true, Nat.le_refl, Nat.sub_self, subL, Nat.zero_add, List.drop_zero]
    rw [← h, if_pos (Nat.le_refl _), List.take_length]
theorem findE_freshN {N : Hp} {b : Nat} {H X : Hp} {e : Ent} (h : freshN N H) (hf : findE H b = some e) : findE (N ++ X) b = findE X b := by
  have hm : e ∈ H ∧ e.blk = b := findE_mem hf
  induction N with
  | nil => rfl
  | cons x r ih =>
    have : ¬ b = x.blk := by
      intro h0
      have := fresh_ne h.1 e hm.1
      exact this (hm.2.trans h0)
    simp only [List.cons_append, findE, if_neg this]
    exact ih h.2
section
variable {P : Program} {X N : Hp} {st xt e sz by_ n m : Nat} {cs ys : List Value} {v x : Value} {K : Value → Hp → Prop}
theorem append_out0 (ho : OutC e sz cs n v N) (hs : slI P st = some (e, sz, by_)) (hx : srcL P (N ++ X) xt x sz = some (ys, m)) (hl : ys.length = m * sz) (h1 : ys.all oneC = true) (hb : (n + m) * by_ ≤ two47)
    (hk : ∀ v' N', OutC e sz (cs ++ ys) (n + m) v' N' → freshN N' X → K v' (N' ++ X)) : evAppend P (N ++ X) st xt v x K := by
  have hsz : 0 < sz := (slI_eq hs).2.elim fun _ h => h.elim fun _ h => h.2.2.2.2.2.1
  unfold evAppend
  rw [hs]
  dsimp only
  rw [hx]
  dsimp only
  rcases ho with ⟨rfl, rfl, rfl, rfl⟩ | ⟨b, c, h0, rfl, hc, hcl, rfl⟩
  · refine ⟨⟨rfl, rfl⟩, fun hm => ?_, fun hm => ⟨by simpa using hb, fun b c' hf hc' => ?_⟩⟩
    · subst hm
      have : ys = [] := List.length_eq_zero_iff.1 (by simpa using hl)
      subst this
      exact hk _ [] (.inl ⟨rfl, rfl, rfl, rfl⟩) trivial
    · have := hk (.slice (some ⟨b, 0, none⟩) (0 + m) c') [⟨b, 0, .vec e sz c', [] ++ ys⟩] (.inr ⟨b, c', by omega, rfl, by omega, by simpa using hl, rfl⟩) ⟨hf, trivial⟩
      rw [Nat.zero_add] at this
      exact this
  · simp only [List.cons_append, List.nil_append, findE, remE, if_true]
    refine ⟨⟨trivial, trivial, trivial, trivial, hcl⟩, hb, h1, fun b' c' hf hc' => ?_⟩
    exact hk _ [⟨b', 0, .vec e sz c', cs ++ ys⟩] (.inr ⟨b', c', by omega, rfl, hc', by rw [List.length_append, hcl, hl, Nat.add_mul], rfl⟩) ⟨hf, trivial⟩
theorem append_out1 {a : Ent} (ho : OutC e sz cs n v N) (ha : fresh a.blk (N ++ X)) (hs : slI P st = some (e, sz, by_)) (hx : srcL P (a :: (N ++ X)) xt x sz = some (ys, m)) (hl : ys.length = m * sz) (h1 : ys.all oneC = true) (hb : (n + m) * by_ ≤ two47)
    (hk : ∀ v' N', OutC e sz (cs ++ ys) (n + m) v' N' → freshN N' (a :: X) → K v' (N' ++ a :: X)) : evAppend P (a :: (N ++ X)) st xt v x K := by
  have hsz : 0 < sz := (slI_eq hs).2.elim fun _ h => h.elim fun _ h => h.2.2.2.2.2.1
  unfold evAppend
  rw [hs]
  dsimp only
  rw [hx]
  dsimp only
  rcases ho with ⟨rfl, rfl, rfl, rfl⟩ | ⟨b, c, h0, rfl, hc, hcl, rfl⟩
  · refine ⟨⟨rfl, rfl⟩, fun hm => ?_, fun hm => ⟨by simpa using hb, fun b c' hf hc' => ?_⟩⟩
    · subst hm
      have : ys = [] := List.length_eq_zero_iff.1 (by simpa using hl)
      subst this
      exact hk _ [] (.inl ⟨rfl, rfl, rfl, rfl⟩) trivial
    · have := hk (.slice (some ⟨b, 0, none⟩) (0 + m) c') [⟨b, 0, .vec e sz c', [] ++ ys⟩] (.inr ⟨b, c', by omega, rfl, by omega, by simpa using hl, rfl⟩) ⟨hf, trivial⟩
      rw [Nat.zero_add] at this
      exact this
  · have hab : ¬ b = a.blk := ha.2.1
    simp only [List.cons_append, List.nil_append, findE, remE, if_neg hab, if_true]
    refine ⟨⟨trivial, trivial, trivial, trivial, hcl⟩, hb, h1, fun b' c' hf hc' => ?_⟩
    exact hk _ [⟨b', 0, .vec e sz c', cs ++ ys⟩] (.inr ⟨b', c', by omega, rfl, hc', by rw [List.length_append, hcl, hl, Nat.add_mul], rfl⟩) ⟨hf, trivial⟩
end
/-- a slice literal behind it -/
theorem freshN_cons {N : Hp} {a : Ent} {X : Hp} (h : freshN N (a :: X)) : freshN N X := by
  induction N with
  | nil => trivial
  | cons x r ih => exact ⟨h.1.2.2, ih h.2⟩
theorem freshN_app {N : Hp} {A X : Hp} (h : freshN N (A ++ X)) : freshN N X := by
  induction A with
  | nil => exact h
  | cons a A ih => exact ih (freshN_cons h)
section
variable (P : Program) (G : Gam) (n : Nat) (ops : List Oper)
/-- the rest of a region, not looked into -/
noncomputable def cKont (K : Tm → Hp → Prop) (s : List Oper) (T : Tm) (H : Hp) : Prop := oOps P G n ops K s T H
theorem oOps_cut (K : Tm → Hp → Prop) : ∀ (k : Nat) (s : List Oper) (T : Tm) (H : Hp), oOps P G n ops (cKont P G n ops K (s.drop k)) (s.take k) T H = oOps P G n ops K s T H
  | 0, s, T, H => by rw [List.take_zero, oOps_nil]; rfl
  | k + 1, [], T, H => by rw [List.take_nil, oOps_nil]; rfl
  | k + 1, o :: s, T, H => by
    have ih := oOps_cut K k s
    have e : oKont P G n ops (cKont P G n ops K (List.drop k s)) T o.dst (List.take k s) = oKont P G n ops K T o.dst s := by
      funext v H'
      exact ih _ _
    rw [List.take_succ_cons, List.drop_succ_cons, oOps_cons, oOps_cons, e, ih]
end
/-- a region up to its k-th operation; what is behind it stays as it is -/
theorem regC {P : Program} {G : Gam} (hG : GamOk P G) (k : Nat) {r : Option Nat} {n : Nat} {id : Nat} {ops : Array Oper} {K : Exit → Tm → Hp → Prop} {T : Tm} {H : Hp} (h : oOps P G n ops.toList (cKont P G n ops.toList (K .normal) (ops.toList.drop k)) (ops.toList.take k) T H) : WpV P r n (.region id ops false) K T H :=
  regO hG (by rw [oOps_cut] at h; exact h)
/-- go on behind a cut, up to the k-th operation from there -/
theorem cutK {P : Program} {G : Gam} (k : Nat) {n : Nat} {ops s : List Oper} {K : Tm → Hp → Prop} {T : Tm} {H : Hp} (h : oOps P G n ops (cKont P G n ops K (s.drop k)) (s.take k) T H) : cKont P G n ops K s T H := by
  rw [oOps_cut] at h; exact h
theorem cutO {P : Program} {G : Gam} {n : Nat} {ops s : List Oper} {K : Tm → Hp → Prop} {T : Tm} {H : Hp} (h : oOps P G n ops K s T H) : cKont P G n ops K s T H := h
end Go.Ev
