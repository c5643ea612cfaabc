/- Wa: words as values, and what the functions of Go's library that are used on them tell. -/
import Derived.Test.YtfioapldbajpmaaDoorFacts
set_option linter.unusedSimpArgs false
set_option linter.unusedVariables false
namespace Go.Ev
structure W where
  a : Nat
  b : Nat
  c : Nat
  d : Nat
  ha : a < 18446744073709551616
  hb : b < 18446744073709551616
  hc : c < 18446744073709551616
  hd : d < 18446744073709551616
def W.cells (w : W) : List Value := [.int .u64 w.a, .int .u64 w.b, .int .u64 w.c, .int .u64 w.d]
def W.v (w : W) : Value := .agg w.cells.toArray
def W.num (w : W) : Nat := w.a + 18446744073709551616 * (w.b + 18446744073709551616 * (w.c + 18446744073709551616 * w.d))
theorem W.eq {x y : W} (ha : x.a = y.a) (hb : x.b = y.b) (hc : x.c = y.c) (hd : x.d = y.d) : x = y := by
  cases x; cases y; simp at ha hb hc hd; subst ha hb hc hd; rfl
theorem W.num_inj {x y : W} (h : x.num = y.num) : x = y := by
  have := x.ha; have := x.hb; have := x.hc; have := x.hd; have := y.ha; have := y.hb; have := y.hc; have := y.hd
  unfold W.num at h
  refine W.eq ?_ ?_ ?_ ?_ <;> omega
theorem W.cells_inj {x y : W} (h : x.cells = y.cells) : x = y := by
  simp only [W.cells, List.cons.injEq, Value.int.injEq, true_and, and_true, Int.ofNat_inj] at h
  exact W.eq h.1 h.2.1 h.2.2.1 h.2.2.2
theorem W.v_inj {x y : W} (h : x.v = y.v) : x = y := by
  simp only [W.v, Value.agg.injEq] at h
  exact W.cells_inj (by simpa using congrArg Array.toList h)
instance : DecidableEq W := fun x y => if h : x.num = y.num then .isTrue (W.num_inj h) else .isFalse fun e => h (by rw [e])
/-- which of two words is less -/
def W.cmp (x y : W) : Int := if x.num < y.num then -1 else if y.num < x.num then 1 else 0
theorem W.cmp_lt {x y : W} (h : x.num < y.num) : -1 = x.cmp y := by unfold W.cmp; rw [if_pos h]
theorem W.cmp_gt {x y : W} (h : y.num < x.num) : 1 = x.cmp y := by unfold W.cmp; rw [if_neg (by omega), if_pos h]
theorem W.cmp_eq {x y : W} (h : x.num = y.num) : 0 = x.cmp y := by unfold W.cmp; rw [if_neg (by omega), if_neg (by omega)]
theorem W.num_d {x y : W} (h : x.d < y.d) : x.num < y.num := by
  have := x.ha; have := x.hb; have := x.hc; unfold W.num; omega
theorem W.num_c {x y : W} (hd : x.d = y.d) (h : x.c < y.c) : x.num < y.num := by
  have := x.ha; have := x.hb; unfold W.num; omega
theorem W.num_b {x y : W} (hd : x.d = y.d) (hc : x.c = y.c) (h : x.b < y.b) : x.num < y.num := by
  have := x.ha; unfold W.num; omega
theorem W.num_a {x y : W} (hd : x.d = y.d) (hc : x.c = y.c) (hb : x.b = y.b) (h : x.a < y.a) : x.num < y.num := by
  unfold W.num; omega
noncomputable def wOf (v : Value) : Option W := @dite (Option W) (∃ x : W, x.v = v) (Classical.propDecidable _) (fun h => some (Classical.choose h)) (fun _ => none)
theorem wOf_v (x : W) : wOf x.v = some x := by
  have h : ∃ y : W, y.v = x.v := ⟨x, rfl⟩
  unfold wOf
  rw [dif_pos h, W.v_inj (Classical.choose_spec h)]
theorem wOf_some {v : Value} {x : W} (h : wOf v = some x) : v = x.v := by
  unfold wOf at h
  by_cases hx : ∃ x : W, x.v = v
  · rw [dif_pos hx] at h; cases h; exact (Classical.choose_spec hx).symm
  · rw [dif_neg hx] at h; cases h
theorem W.v_cells (x : W) : x.v.cells = x.cells.toArray := rfl
theorem W.agg (x : W) : Value.agg x.cells.toArray = x.v := rfl
theorem W.len (x : W) : x.cells.length = 4 := rfl
theorem W.sub (x : W) : subL x.cells 0 4 = some x.cells := rfl
theorem W.sub0 (x : W) : subL x.cells 0 1 = some [.int .u64 x.a] := rfl
theorem W.sub1 (x : W) : subL x.cells 1 1 = some [.int .u64 x.b] := rfl
theorem W.sub2 (x : W) : subL x.cells 2 1 = some [.int .u64 x.c] := rfl
theorem W.sub3 (x : W) : subL x.cells 3 1 = some [.int .u64 x.d] := rfl
theorem W.take (x : W) : List.take 4 x.cells = x.cells := rfl
theorem W.t0 (x : W) : List.take 1 x.cells = [.int .u64 x.a] := rfl
theorem W.t1 (x : W) : List.take 1 (List.drop 1 x.cells) = [.int .u64 x.b] := rfl
theorem W.t2 (x : W) : List.take 1 (List.drop 2 x.cells) = [.int .u64 x.c] := rfl
theorem W.t3 (x : W) : List.take 1 (List.drop 3 x.cells) = [.int .u64 x.d] := rfl
theorem W.all1 (x : W) : x.cells.all oneC = true := rfl
theorem W.takeA (x : W) (l : List Value) : List.take 4 (x.cells ++ l) = x.cells := rfl
theorem W.dropA (x : W) (l : List Value) : List.drop 4 (x.cells ++ l) = l := rfl
theorem W.dropB (x : W) (l : List Value) (n : Nat) : List.drop (n + 4) (x.cells ++ l) = List.drop n l := rfl
theorem W.drop4 (x : W) : List.drop 4 x.cells = [] := rfl
theorem W.take0 (x : W) (l : List Value) (n : Nat) : List.take (n + 4) (x.cells ++ l) = x.cells ++ List.take n l := rfl
def W.zero : W := ⟨0, 0, 0, 0, by decide, by decide, by decide, by decide⟩
attribute [push_cast] wOf_v W.v_cells W.agg W.len W.sub W.sub0 W.sub1 W.sub2 W.sub3 W.take W.t0 W.t1 W.t2 W.t3 W.all1 W.takeA W.dropA W.dropB W.drop4 W.take0 List.append_assoc List.length_append List.toList_toArray
theorem sub1 {K : Value → Hp → Prop} {v : Value} {e : Ent} {H : Hp} (h : K v [e]) : ∃ H', List.Sublist H' (e :: H) ∧ K v H' := ⟨[e], (List.nil_sublist H).cons_cons e, h⟩
theorem sub0 {K : Value → Hp → Prop} {v : Value} {H : Hp} (h : K v []) : ∃ H', List.Sublist H' H ∧ K v H' := ⟨[], List.nil_sublist H, h⟩
/-- the word of a number of Go's -/
def W.ofInt (n : Int) : W := if 0 ≤ n then ⟨n.toNat % 18446744073709551616, 0, 0, 0, Nat.mod_lt _ (by decide), by decide, by decide, by decide⟩
  else ⟨(n + 18446744073709551616).toNat % 18446744073709551616, 18446744073709551615, 18446744073709551615, 18446744073709551615, Nat.mod_lt _ (by decide), by decide, by decide, by decide⟩
/-- a new slice of these cells -/
def NewS (e s : Nat) (n : Nat) (cells : List Value) : Value → Hp → Prop := fun v N => ∃ b c, v = .slice (some ⟨b, 0, none⟩) n c ∧ n ≤ c ∧ N = [⟨b, 0, .vec e s c, cells⟩]
/-- numbers of 64 bits, one behind the other -/
def nums (l : List Nat) : List Value := l.map fun (x : Nat) => Value.int .u64 (x : Int)
def cmpN (x y : Int) : Int := if x < y then -1 else if y < x then 1 else 0
end Go.Ev
namespace Go.Proofs.YtfioapldbajpmaaDoor

open Go Go.Ev Go.Proofs
set_option maxRecDepth 100000
set_option maxHeartbeats 4000000
def cmpG : List Value → Option Value
  | [.int .u64 x, .int .u64 y] => some (.int .i64 (cmpN x y))
  | _ => none
attribute [push_cast] cmpG
/-- which of two rows of four numbers is less -/
def cmp4 (a b c d a' b' c' d' : Nat) : Int := if cmpN a a' ≠ 0 then cmpN a a' else if cmpN b b' ≠ 0 then cmpN b b' else if cmpN c c' ≠ 0 then cmpN c c' else cmpN d d'
theorem cmp4_W (x y : W) : cmp4 x.d x.c x.b x.a y.d y.c y.b y.a = x.cmp y := by
  have := x.ha; have := x.hb; have := x.hc; have := x.hd; have := y.ha; have := y.hb; have := y.hc; have := y.hd
  unfold cmp4 cmpN W.cmp W.num
  repeat' split
  all_goals omega
theorem W.nums (x : W) : x.cells = nums [x.a, x.b, x.c, x.d] := rfl
end Go.Proofs.YtfioapldbajpmaaDoor
