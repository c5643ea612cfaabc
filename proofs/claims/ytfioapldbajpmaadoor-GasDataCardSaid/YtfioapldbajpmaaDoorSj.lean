/- Sj: the program's word.FromBytes: last, reversed. -/
import Derived.Test.YtfioapldbajpmaaDoorSi
set_option linter.unusedSimpArgs false
set_option linter.unusedVariables false
namespace Go.Ev
/-- n cells, told by a function -/
noncomputable def cF : Nat → (Nat → Value) → List Value := hid fun n f => (List.range n).map f
theorem cF_eq (n : Nat) (f : Nat → Value) : cF n f = (List.range n).map f := by unfold cF; rw [hid_eq]
theorem cF_len (n : Nat) (f : Nat → Value) : (cF n f).length = n := by rw [cF_eq, List.length_map, List.length_range]
theorem cF_get (n : Nat) (f : Nat → Value) (i : Nat) : (cF n f)[i]? = if i < n then some (f i) else none := by
  rw [cF_eq, List.getElem?_map]
  split
  · rename_i h; rw [List.getElem?_range h]; rfl
  · rename_i h; rw [List.getElem?_eq_none (by simpa using h)]; rfl
theorem cF_at (n : Nat) (f : Nat → Value) {i : Nat} (h : i < n) : List.take 1 (List.drop i (cF n f)) = [f i] := by
  have hl : i < (cF n f).length := by rw [cF_len]; exact h
  rw [List.drop_eq_getElem_cons hl, List.take_succ_cons, List.take_zero]
  have := cF_get n f i
  rw [List.getElem?_eq_getElem hl, if_pos h] at this
  rw [Option.some.inj this]
def updV (f : Nat → Value) (i : Nat) (v : Value) : Nat → Value := fun j => if j = i then v else f j
theorem cF_set (n : Nat) (f : Nat → Value) {i : Nat} (h : i < n) (v : Value) : List.take i (cF n f) ++ v :: List.drop (i + 1) (cF n f) = cF n (updV f i v) := by
  have hl := cF_len n f
  refine List.ext_getElem? fun j => ?_
  rw [cF_get]
  have ht : (List.take i (cF n f)).length = i := by rw [List.length_take, hl]; omega
  rcases Nat.lt_trichotomy j i with h1 | rfl | h1
  · rw [List.getElem?_append_left (by omega), List.getElem?_take_of_lt h1, cF_get, if_pos (by omega), if_pos (by omega)]
    unfold updV; rw [if_neg (by omega : ¬ j = i)]
  · rw [List.getElem?_append_right (by omega), ht, Nat.sub_self, List.getElem?_cons_zero, if_pos h]
    unfold updV; rw [if_pos rfl]
  · rw [List.getElem?_append_right (by omega), ht, show j - i = (j - i - 1) + 1 by omega, List.getElem?_cons_succ, List.getElem?_drop, show i + 1 + (j - i - 1) = j by omega, cF_get]
    unfold updV; rw [if_neg (by omega : ¬ j = i)]
theorem cF_congr (n : Nat) {f g : Nat → Value} (h : ∀ j, j < n → f j = g j) : cF n f = cF n g := by
  rw [cF_eq, cF_eq]
  exact List.map_congr_left fun j hj => h j (List.mem_range.1 hj)
def byF (l : List UInt8) : Nat → Value := fun k => .int .u8 ((l.getD k 0).toNat : Nat)
theorem byF_one (l : List UInt8) (k : Nat) : oneC (byF l k) = true := rfl
theorem byteV_cF (l : List UInt8) : byteV l = cF l.length (byF l) := by
  refine List.ext_getElem? fun j => ?_
  rw [cF_get]
  unfold byteV byF
  rw [List.getElem?_map]
  split
  · rename_i h; rw [List.getElem?_eq_getElem h, List.getD_eq_getElem?_getD, List.getElem?_eq_getElem h]; rfl
  · rename_i h; rw [List.getElem?_eq_none (by omega)]; rfl
/-- the first i, and the last i, are turned -/
noncomputable def swpF (l : List UInt8) (i : Nat) : Nat → Value := fun k => if k < i ∨ l.length - i ≤ k then byF l (l.length - 1 - k) else byF l k
theorem swpF_zero (l : List UInt8) : cF l.length (swpF l 0) = byteV l := by
  rw [byteV_cF]
  exact cF_congr _ fun j hj => by unfold swpF; rw [if_neg (by omega)]
theorem swpF_step (l : List UInt8) {i : Nat} (h : i + i + 1 < l.length) : updV (updV (swpF l i) i (swpF l i (l.length - 1 - i))) (l.length - 1 - i) (swpF l i i) = swpF l (i + 1) := by
  funext k
  unfold updV
  have e1 : swpF l i (l.length - 1 - i) = byF l (l.length - 1 - i) := by unfold swpF; rw [if_neg (by omega)]
  have e2 : swpF l i i = byF l i := by unfold swpF; rw [if_neg (by omega)]
  rw [e1, e2]
  by_cases h1 : k = l.length - 1 - i
  · rw [if_pos h1]
    unfold swpF; rw [if_pos (by omega)]
    congr 1; omega
  · rw [if_neg h1]
    by_cases h2 : k = i
    · rw [if_pos h2]
      unfold swpF; rw [if_pos (by omega)]
      congr 1; omega
    · rw [if_neg h2]
      unfold swpF
      by_cases h3 : k < i ∨ l.length - i ≤ k
      · rw [if_pos h3, if_pos (by omega)]
      · rw [if_neg h3, if_neg (by omega)]
theorem swpF_done (l : List UInt8) {i : Nat} (h : l.length ≤ i + i + 1) : cF l.length (swpF l i) = byteV l.reverse := by
  rw [byteV_cF, List.length_reverse]
  refine cF_congr _ fun j hj => ?_
  have e : byF l.reverse j = byF l (l.length - 1 - j) := by
    unfold byF
    rw [List.getD_eq_getElem?_getD, List.getD_eq_getElem?_getD, List.getElem?_reverse hj]
  rw [e]
  unfold swpF
  split
  · rfl
  · congr 1; omega
end Go.Ev
namespace Go.Proofs.YtfioapldbajpmaaDoor
open Go Go.Ev Go.Proofs
set_option maxRecDepth 100000
set_option maxHeartbeats 4000000
end Go.Proofs.YtfioapldbajpmaaDoor
