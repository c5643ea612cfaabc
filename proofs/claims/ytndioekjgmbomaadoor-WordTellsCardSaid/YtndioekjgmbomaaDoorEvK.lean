/- EvK: a contract that writes one block of the caller's. -/
import Derived.Test.YtndioekjgmbomaaDoorEvM
set_option linter.unusedSimpArgs false
set_option linter.unusedVariables false
namespace Go.Ev
open Go.RowKit

/-- **A contract over one block that it may write, and memory that it only reads.** -/
theorem CallsV.useM {P : Program} {g : FuncId} {args : List Value} {m : Ent} {Hf H : Hp} {K K' : Value → Hp → Prop} (hc : CallsV P g args (m :: Hf) K) (hm : findE H m.blk = some m) (hw : m.kind.solid = true) (hd : derE (remE H m.blk) Hf)
    (hk : ∀ v N, K v N → allWr N ∧ marksOf N = [] ∧ (freshN N (remE H m.blk) → K' v (N ++ remE H m.blk))) : CallsV P g args H K' := by
  refine ⟨hc.1, fun w0 mu w hs => ?_⟩
  have hmw : m.wr := by unfold Ent.wr; cases hk : m.kind <;> simp [Kind.solid, hk] at hw ⊢
  have hmo : ∀ o, m.kind ≠ .obj o := by intro o ho; rw [ho] at hw; simp [Kind.solid] at hw
  obtain ⟨hmem, _⟩ := findE_mem hm
  have hs1 := hs.weak (remE_sub H m.blk)
  have hne0 := remE_ne hmw hs.apart hm
  have hder := derE_mem hd
  have hro : ∀ e ∈ Hf, ¬ e.wr := fun e he hw => by unfold Ent.wr at hw; rw [(hder e he).1] at hw; exact hw
  have hblk : ∀ e ∈ Hf, e.blk ≠ m.blk ∧ e.blk < w.heap.size := fun e he => by
    have h2 := (hder e he).2
    unfold cellsAt at h2
    split at h2
    · rename_i e' he'
      obtain ⟨hm', hb⟩ := findE_mem he'
      rw [← hb]; exact ⟨hne0 e' hm', Ent.lt (hs1.ents e' hm')⟩
    · cases h2
  have hmf : marksOf (m :: Hf) = [] := by
    have : ∀ L : Hp, (∀ e ∈ L, e.kind = .ro) → marksOf L = [] := by
      intro L
      induction L with
      | nil => intro _; rfl
      | cons x r ih => intro h; simp only [marksOf, h x (by simp)]; exact ih fun e he => h e (by simp [he])
    have h1 := this Hf fun e he => (hder e he).1
    simp only [marksOf]
    split
    · rename_i hk; exact absurd hk (hmo _)
    · exact h1
  have hsf : Sat w (fun b => b = m.blk) (m :: Hf) w := by
    refine ⟨rfl, rfl, rfl, Nat.le_refl _, fun _ _ _ => rfl, ?_, ?_, List.pairwise_cons.2 ⟨fun e he _ => (hblk e he).1.symm, ?_⟩⟩
    · intro e he
      rcases List.mem_cons.1 he with rfl | he
      · exact hs.ents _ hmem
      · obtain ⟨h1, h2⟩ := hder e he
        unfold Ent.holds
        rw [h1]
        exact ⟨(hblk e he).2, (hs1.cellsAt h2).2⟩
    · intro e he hw
      rcases List.mem_cons.1 he with rfl | he
      · exact .inl rfl
      · exact absurd hw (hro e he)
    · exact List.pairwise_iff_forall_sublist.2 fun {a b} hab => by
        intro hw
        rcases hw with hw | hw
        · exact absurd hw (hro a (hab.subset (by simp)))
        · exact absurd hw (hro b (hab.subset (by simp)))
  refine (hc.2 w _ w hsf).mono ?_
  rintro e w' ⟨v, N, rfl, hK, hsN, hmN⟩
  obtain ⟨hwN, hmN0, hk'⟩ := hk v N hK
  have hge : ∀ e ∈ N, e.blk = m.blk ∨ w.heap.size ≤ e.blk := fun e he => hsN.own e he (allWr_mem hwN e he)
  have hne : ∀ e ∈ N, ∀ x ∈ remE H m.blk, x.blk ≠ e.blk := fun e he x hx => by
    rcases hge e he with h | h
    · rw [h]; exact hne0 x hx
    · have := Ent.lt (hs1.ents x hx); omega
  have hmb : mu m.blk ∨ w0.heap.size ≤ m.blk := hs.own _ hmem hmw
  refine ⟨v, N ++ remE H m.blk, rfl, hk' (freshN_of hne), ⟨hsN.os.trans hs.os, hsN.tape.trans hs.tape, hsN.output.trans hs.output, Nat.le_trans hs.size hsN.size, ?_, ?_, ?_, ?_⟩, ?_⟩
  · intro b hb hmu
    rw [hsN.old b (Nat.lt_of_lt_of_le hb hs.size) (by rintro rfl; rcases hmb with h | h; exact hmu h; omega)]
    exact hs.old b hb hmu
  · intro x hx
    rcases List.mem_append.1 hx with hx | hx
    · exact hsN.ents x hx
    · exact Ent.holds_of (hs1.ents x hx) (hsN.old _ (Ent.lt (hs1.ents x hx)) (hne0 x hx))
  · intro x hx hxw
    rcases List.mem_append.1 hx with hx | hx
    · rcases hge x hx with h | h
      · rw [h]; exact hmb
      · exact .inr (Nat.le_trans hs.size h)
    · exact hs1.own x hx hxw
  · exact List.pairwise_append.2 ⟨hsN.apart, hs1.apart, fun x hx y hy _ => (hne x hx y hy).symm⟩
  · rw [marks_append, hmN0, marks_remE hm hmo]; rfl
end Go.Ev
