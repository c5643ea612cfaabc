/- We: the document's words: Digits (begun). -/
import Derived.Test.YtfioapldbajpmaaDoorDa
import Derived.Test.YtfioapldbajpmaaDoorE3
set_option linter.unusedSimpArgs false
set_option linter.unusedVariables false
namespace Go.Ev
theorem OutC.pos {e s n : Nat} {cs : List Value} {v : Value} {N : Hp} (h : OutC e s cs n v N) (hn : 0 < n) : ∃ b c, v = .slice (some ⟨b, 0, none⟩) n c ∧ n ≤ c ∧ cs.length = n * s ∧ N = [⟨b, 0, .vec e s c, cs⟩] := by
  rcases h with ⟨rfl, _, _, _⟩ | ⟨b, c, _, h1, h2, h3, h4⟩
  · exact absurd hn (Nat.lt_irrefl 0)
  · exact ⟨b, c, h1, h2, h3, h4⟩
theorem subH_pre {A B : Hp} (h : subH A B) : ∀ (N : Hp), subH (N ++ A) (N ++ B)
  | [] => h
  | n :: r => by
    refine ⟨by simp [findE], ?_⟩
    simp only [List.cons_append, remE, if_true]
    exact subH_pre h r
theorem fresh_app {b : Nat} : ∀ {A B : Hp}, fresh b (A ++ B) → fresh b B
  | [], _, h => h
  | _ :: A, _, h => fresh_app (A := A) h.2.2
theorem subH_cons {a : Ent} {X : Hp} (h : fresh a.blk X) : subH (a :: X) X := by
  have hs : ∀ (L Y : Hp), fresh a.blk Y → subH L Y → subH (a :: L) Y := fun L Y => by
    induction Y generalizing L with
    | nil => intro _ _; exact trivial
    | cons e r ih =>
      intro hf hh
      refine ⟨by simp only [findE]; rw [if_neg hf.2.1]; exact hh.1, ?_⟩
      simp only [remE]
      rw [if_neg hf.2.1]
      exact ih _ hf.2.2 hh.2
  exact hs X X h (subH_self X)
theorem subH_rot {e : Ent} : ∀ {Hc : Hp}, fresh e.blk Hc → subH (e :: Hc) (Hc ++ [e])
  | [], _ => by
    refine ⟨by simp [findE], ?_⟩
    exact trivial
  | x :: r, h => by
    have h1 : ¬ x.blk = e.blk := h.2.1
    refine ⟨by simp [findE, h1], ?_⟩
    have : remE (e :: x :: r) x.blk = e :: r := by simp [remE, h1]
    rw [this]
    exact subH_rot h.2.2
/-- numbers of Go's, one behind the other -/
def zs (l : List Int) : List Value := l.map fun x => .int .i64 x
theorem zs_len (l : List Int) : (zs l).length = l.length := by simp [zs]
theorem zs_app (l m : List Int) : zs (l ++ m) = zs l ++ zs m := by simp [zs]
theorem zs_one (x : Int) : zs [x] = [.int .i64 x] := rfl
noncomputable def digN : Nat → Nat → Nat := hid fun n j => n / 256 ^ j % 256
theorem digN_eq (n j : Nat) : digN n j = n / 256 ^ j % 256 := by unfold digN; rw [hid_eq]
theorem digN_lt (n j : Nat) : digN n j < 256 := by rw [digN_eq]; omega
/-- a number's digits to the base 256, the lowest one first -/
noncomputable def digs (n k : Nat) : List Int := (List.range k).map fun j => ((digN n j : Nat) : Int)
theorem digs_succ (n k : Nat) : digs n (k + 1) = digs n k ++ [((digN n k : Nat) : Int)] := by
  unfold digs; rw [List.range_succ, List.map_append]; rfl
theorem digs_len (n k : Nat) : (digs n k).length = k := by simp [digs]
/-- a part of a word -/
def W.part (w : W) : Nat → Nat
  | 0 => w.a
  | 1 => w.b
  | 2 => w.c
  | _ => w.d
theorem part_lt (w : W) (i : Nat) : w.part i < 18446744073709551616 := by
  unfold W.part; split
  · exact w.ha
  · exact w.hb
  · exact w.hc
  · exact w.hd
end Go.Ev
namespace Go.Ev
theorem digN_part {n p r j : Nat} (h : n / 256 ^ j = p + 18446744073709551616 * r) {k : Nat} (hk : k < 8) : digN n (j + k) = p / 256 ^ k % 256 := by
  rw [digN_eq, Nat.pow_add, ← Nat.div_div_eq_div_mul, h]
  obtain rfl | rfl | rfl | rfl | rfl | rfl | rfl | rfl : k = 0 ∨ k = 1 ∨ k = 2 ∨ k = 3 ∨ k = 4 ∨ k = 5 ∨ k = 6 ∨ k = 7 := by omega
  all_goals simp only [Nat.reducePow]; omega
theorem dig_part (w : W) {i k : Nat} (hi : i < 4) (hk : k < 8) : digN w.num (8 * i + k) = w.part i / 256 ^ k % 256 := by
  have := w.ha; have := w.hb; have := w.hc; have := w.hd
  obtain rfl | rfl | rfl | rfl : i = 0 ∨ i = 1 ∨ i = 2 ∨ i = 3 := by omega
  · exact digN_part (r := w.b + 18446744073709551616 * (w.c + 18446744073709551616 * w.d)) (by unfold W.num W.part; simp only [Nat.reducePow, Nat.reduceMul]; omega) hk
  · exact digN_part (r := w.c + 18446744073709551616 * w.d) (by unfold W.num W.part; simp only [Nat.reducePow, Nat.reduceMul]; omega) hk
  · exact digN_part (r := w.d) (by unfold W.num W.part; simp only [Nat.reducePow, Nat.reduceMul]; omega) hk
  · exact digN_part (r := 0) (by unfold W.num W.part; simp only [Nat.reducePow, Nat.reduceMul]; omega) hk
end Go.Ev
