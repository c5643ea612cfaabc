/- Ka: keys (an address, whether it is a slot, a word); their order. -/
import Derived.Test.YtfioapldbajpmaaDoorEvS
import Derived.Test.YtfioapldbajpmaaDoorHa
import Derived.Test.YtfioapldbajpmaaDoorWl
set_option linter.unusedSimpArgs false
set_option linter.unusedVariables false
namespace Go.Ev
structure KeyT where
  at_ : List UInt8
  slot : Bool
  key : W
  hl : at_.length = 20
theorem KeyT.ext {x y : KeyT} (h1 : x.at_ = y.at_) (h2 : x.slot = y.slot) (h3 : x.key = y.key) : x = y := by
  cases x; cases y; cases h1; cases h2; cases h3; rfl
instance : DecidableEq KeyT := fun x y => if h : x.at_ = y.at_ ∧ x.slot = y.slot ∧ x.key = y.key then .isTrue (KeyT.ext h.1 h.2.1 h.2.2) else .isFalse fun e => h (by rw [e]; exact ⟨rfl, rfl, rfl⟩)
def KeyT.cells (k : KeyT) : List Value := byteV k.at_ ++ (.bool k.slot :: k.key.cells)
def KeyT.v (k : KeyT) : Value := .agg k.cells.toArray
theorem byteV_lenK (l : List UInt8) : (byteV l).length = l.length := by simp [byteV]
theorem KeyT.len (k : KeyT) : k.cells.length = 25 := by unfold KeyT.cells; rw [List.length_append, byteV_lenK, k.hl]; rfl
theorem KeyT.take25 (k : KeyT) : List.take 25 k.cells = k.cells := List.take_of_length_le (by rw [k.len]; exact Nat.le_refl _)
theorem KeyT.take20 (k : KeyT) : List.take 20 k.cells = byteV k.at_ := by
  unfold KeyT.cells
  exact List.take_left' (by rw [byteV_lenK, k.hl])
theorem KeyT.drop20 (k : KeyT) : List.drop 20 k.cells = .bool k.slot :: k.key.cells := by
  unfold KeyT.cells
  exact List.drop_left' (by rw [byteV_lenK, k.hl])
theorem KeyT.slot1 (k : KeyT) : List.take 1 (List.drop 20 k.cells) = [.bool k.slot] := by rw [k.drop20]; rfl
theorem KeyT.key4 (k : KeyT) : List.take 4 (List.drop 21 k.cells) = k.key.cells := by
  rw [show 21 = 20 + 1 from rfl, ← List.drop_drop, k.drop20]; rfl
theorem KeyT.at1 (k : KeyT) {i : Nat} (h : i < 20) : List.take 1 (List.drop i k.cells) = [.int .u8 ((k.at_[i]'(by rw [k.hl]; exact h)).toNat : Nat)] := by
  have hi : i < k.at_.length := by rw [k.hl]; exact h
  have hb : i < (byteV k.at_).length := by rw [byteV_lenK]; exact hi
  unfold KeyT.cells
  rw [List.drop_append_of_le_length (by omega), List.take_append_of_le_length (by rw [List.length_drop]; omega)]
  unfold byteV
  rw [← List.map_drop, ← List.map_take, List.drop_eq_getElem_cons hi, List.take_succ_cons, List.take_zero, List.map_cons, List.map_nil]
theorem KeyT.all1 (k : KeyT) : k.cells.all oneC = true := by
  unfold KeyT.cells
  rw [List.all_append, Bool.and_eq_true]
  exact ⟨by simp [byteV, oneC], rfl⟩
theorem KeyT.agg (k : KeyT) : Value.agg k.cells.toArray = k.v := rfl
theorem KeyT.v_cells (k : KeyT) : k.v.cells = k.cells.toArray := rfl
theorem KeyT.sub (k : KeyT) : subL k.cells 0 25 = some k.cells := by
  unfold subL
  rw [if_pos (by rw [k.len]; exact Nat.le_refl _), List.drop_zero, k.take25]
attribute [push_cast] KeyT.len KeyT.take25 KeyT.slot1 KeyT.key4 KeyT.all1 KeyT.agg KeyT.v_cells
theorem byteV_inj {a b : List UInt8} (h : byteV a = byteV b) : a = b := by
  induction a generalizing b with
  | nil => cases b <;> simp [byteV] at h ⊢
  | cons x r ih =>
    cases b with
    | nil => simp [byteV] at h
    | cons y t =>
      simp only [byteV, List.map_cons, List.cons.injEq, Value.int.injEq, true_and] at h
      rw [ih h.2, UInt8.toNat_inj.1 (by omega : x.toNat = y.toNat)]
theorem KeyT.cells_inj {x y : KeyT} (h : x.cells = y.cells) : x = y := by
  have h1 := congrArg (List.take 20) h
  have h2 := congrArg (List.drop 20) h
  rw [x.take20, y.take20] at h1
  rw [x.drop20, y.drop20] at h2
  simp only [List.cons.injEq, Value.bool.injEq] at h2
  exact KeyT.ext (byteV_inj h1) h2.1 (W.cells_inj h2.2)
theorem KeyT.v_inj {x y : KeyT} (h : x.v = y.v) : x = y := by
  unfold KeyT.v at h
  simp only [Value.agg.injEq] at h
  exact KeyT.cells_inj (by simpa using congrArg Array.toList h)
noncomputable def kOf (v : Value) : Option KeyT := @dite (Option KeyT) (∃ x : KeyT, x.v = v) (Classical.propDecidable _) (fun h => some (Classical.choose h)) (fun _ => none)
theorem kOf_v (x : KeyT) : kOf x.v = some x := by
  unfold kOf
  rw [dif_pos ⟨x, rfl⟩]
  exact congrArg some (KeyT.v_inj (Classical.choose_spec (⟨x, rfl⟩ : ∃ y : KeyT, y.v = x.v)))
theorem kOf_some {v : Value} {x : KeyT} (h : kOf v = some x) : v = x.v := by
  unfold kOf at h
  split at h
  · rename_i hx
    rw [← Option.some.inj h]
    exact (Classical.choose_spec hx).symm
  · cases h
attribute [push_cast] kOf_v
/-! ### equality -/
def keyK : List CK := List.replicate 20 .i ++ [.b, .i, .i, .i, .i]
theorem eqC_bytes : ∀ (a b : List UInt8), a.length = b.length → eqC (List.replicate a.length .i) (byteV a) (byteV b) = some (a == b)
  | [], [], _ => rfl
  | [], _ :: _, h => by cases h
  | _ :: _, [], h => by cases h
  | x :: r, y :: t, h => by
    have ih := eqC_bytes r t (by simpa using h)
    simp only [byteV, List.map_cons, List.length_cons, List.replicate_succ, eqC, if_true]
    simp only [byteV] at ih
    rw [ih]
    simp only [Option.map_some, Option.some.injEq]
    rw [List.cons_beq_cons]
    congr 1
    by_cases hxy : x = y
    · rw [hxy, beq_self_eq_true, beq_self_eq_true]
    · rw [beq_eq_false_iff_ne.2 hxy, beq_eq_false_iff_ne.2 (fun h => hxy (UInt8.toNat_inj.1 (by omega)))]
theorem eqC_cat : ∀ {k1 k2 : List CK} {x1 x2 y1 y2 : List Value} {r1 r2 : Bool}, eqC k1 x1 y1 = some r1 → eqC k2 x2 y2 = some r2 → eqC (k1 ++ k2) (x1 ++ x2) (y1 ++ y2) = some (r1 && r2)
  | [], k2, [], x2, [], y2, r1, r2, h1, h2 => by
    simp only [eqC, Option.some.injEq] at h1
    subst h1
    simpa using h2
  | [], _, _ :: _, _, _, _, _, _, h, _ => by simp [eqC] at h
  | [], _, [], _, _ :: _, _, _, _, h, _ => by simp [eqC] at h
  | k :: ks, _, [], _, _, _, _, _, h, _ => by cases k <;> simp [eqC] at h
  | k :: ks, _, x :: xs, _, [], _, _, _, h, _ => by cases k <;> cases x <;> simp [eqC] at h
  | k :: ks, k2, x :: xs, x2, y :: ys, y2, r1, r2, h1, h2 => by
    cases k <;> cases x <;> cases y <;> simp only [eqC, reduceCtorEq] at h1
    case b.bool.bool a b =>
      cases hh : eqC ks xs ys with
      | none => simp [hh] at h1
      | some r =>
        simp only [hh, Option.map_some, Option.some.injEq] at h1
        rw [List.cons_append, List.cons_append, List.cons_append, eqC, eqC_cat hh h2, ← h1]
        simp [Bool.and_assoc]
    case i.int.int k a k' b =>
      split at h1
      · rename_i hk
        cases hh : eqC ks xs ys with
        | none => simp [hh] at h1
        | some r =>
          simp only [hh, Option.map_some, Option.some.injEq] at h1
          rw [List.cons_append, List.cons_append, List.cons_append, eqC, if_pos hk, eqC_cat hh h2, ← h1]
          simp [Bool.and_assoc]
      · cases h1
    case s.string.string a b =>
      cases hh : eqC ks xs ys with
      | none => simp [hh] at h1
      | some r =>
        simp only [hh, Option.map_some, Option.some.injEq] at h1
        rw [List.cons_append, List.cons_append, List.cons_append, eqC, eqC_cat hh h2, ← h1]
        simp [Bool.and_assoc]
theorem W.ceqK (x y : W) : eqC [.i, .i, .i, .i] x.cells y.cells = some (decide (x = y)) := by
  have h : ∀ (p q r s : Bool) (P : Prop) [Decidable P], (P ↔ (p = true ∧ q = true ∧ r = true ∧ s = true)) → (p && (q && (r && (s && true)))) = decide P := by
    intro p q r s P _ hh
    cases p <;> cases q <;> cases r <;> cases s <;> simp_all
  simp only [W.cells, eqC, if_true, Option.map_some, Option.some.injEq]
  refine h _ _ _ _ _ ⟨fun h => by subst h; simp, fun h => ?_⟩
  simp only [beq_iff_eq] at h
  exact W.eq (by omega) (by omega) (by omega) (by omega)
theorem W.ceqVK {P : Program} {t : TypeId} (x y : W) (h1 : tyI P t = some (4, true)) (h2 : P.eqGuardType P.depth t = false) (h3 : flatK P 12 t = some [.i, .i, .i, .i]) : eqV P t x.v y.v = some (decide (x = y)) := by
  unfold eqV W.v
  simp only [h1, h2, h3, Bool.false_eq_true, if_false, Option.bind_some]
  exact W.ceqK x y
theorem W.ceqlK {P : Program} {t : TypeId} (x y : W) (h1 : tyI P t = some (4, true)) (h2 : P.eqGuardType P.depth t = false) (h3 : flatK P 12 t = some [.i, .i, .i, .i]) : binQ P .eql t x.v y.v = some (.bool (decide (x = y))) := by
  show (eqV P t x.v y.v).map Value.bool = _
  rw [W.ceqVK x y h1 h2 h3]; rfl
theorem W.cneqK {P : Program} {t : TypeId} (x y : W) (h1 : tyI P t = some (4, true)) (h2 : P.eqGuardType P.depth t = false) (h3 : flatK P 12 t = some [.i, .i, .i, .i]) : binQ P .neq t x.v y.v = some (.bool (!decide (x = y))) := by
  show (eqV P t x.v y.v).map (fun r => Value.bool !r) = _
  rw [W.ceqVK x y h1 h2 h3]; rfl
theorem wz_aggK : Value.agg #[.int .u64 0, .int .u64 0, .int .u64 0, .int .u64 0] = W.zero.v := rfl
theorem wz_cellsK : [Value.int .u64 0, .int .u64 0, .int .u64 0, .int .u64 0] = W.zero.cells := rfl
attribute [push_cast high] wz_aggK wz_cellsK W.ceqlK W.cneqK
theorem KeyT.eqC (x y : KeyT) : eqC keyK x.cells y.cells = some (decide (x = y)) := by
  have h1 := eqC_bytes x.at_ y.at_ (by rw [x.hl, y.hl])
  rw [x.hl] at h1
  have h2 : Ev.eqC [.b, .i, .i, .i, .i] (.bool x.slot :: x.key.cells) (.bool y.slot :: y.key.cells) = some ((x.slot == y.slot) && decide (x.key = y.key)) := by
    rw [Ev.eqC, W.ceqK]; rfl
  unfold keyK KeyT.cells
  rw [eqC_cat h1 h2]
  congr 1
  by_cases h : x = y
  · subst h; simp
  · rw [decide_eq_false h]
    cases h3 : (x.at_ == y.at_)
    · rfl
    · cases h4 : (x.slot == y.slot)
      · rfl
      · rw [beq_iff_eq] at h3 h4
        rw [decide_eq_false fun h5 => h (KeyT.ext h3 h4 h5)]; rfl
theorem KeyT.eqV {P : Program} {t : TypeId} (x y : KeyT) (h1 : tyI P t = some (25, true)) (h2 : P.eqGuardType P.depth t = false) (h3 : flatK P 12 t = some keyK) : eqV P t x.v y.v = some (decide (x = y)) := by
  unfold Ev.eqV KeyT.v
  simp only [h1, h2, h3, Bool.false_eq_true, if_false, Option.bind_some]
  exact KeyT.eqC x y
theorem KeyT.eql {P : Program} {t : TypeId} (x y : KeyT) (h1 : tyI P t = some (25, true)) (h2 : P.eqGuardType P.depth t = false) (h3 : flatK P 12 t = some keyK) : binQ P .eql t x.v y.v = some (.bool (decide (x = y))) := by
  show (Ev.eqV P t x.v y.v).map Value.bool = _
  rw [KeyT.eqV x y h1 h2 h3]; rfl
theorem KeyT.neq {P : Program} {t : TypeId} (x y : KeyT) (h1 : tyI P t = some (25, true)) (h2 : P.eqGuardType P.depth t = false) (h3 : flatK P 12 t = some keyK) : binQ P .neq t x.v y.v = some (.bool (!decide (x = y))) := by
  show (Ev.eqV P t x.v y.v).map (fun r => Value.bool !r) = _
  rw [KeyT.eqV x y h1 h2 h3]; rfl
attribute [push_cast high] KeyT.eql KeyT.neq
/-! ### order -/
theorem beN_snocK : ∀ (r : List UInt8) (x : UInt8), beN (r ++ [x]) = beN r + 256 ^ r.length * x.toNat := hBeN_snoc
theorem beN_first : ∀ {a b : List UInt8} {i : Nat}, a.length = b.length → a.take i = b.take i → ∀ (h : i < a.length) (h' : i < b.length), a[i].toNat < b[i].toNat → beN a.reverse < beN b.reverse
  | [], _, _, _, _, h, _, _ => absurd h (Nat.not_lt_zero _)
  | _ :: _, [], _, hl, _, _, _, _ => by cases hl
  | x :: a, y :: b, 0, hl, _, _, _, hlt => by
    have hl' : a.length = b.length := by simpa using hl
    simp only [List.getElem_cons_zero] at hlt
    rw [List.reverse_cons, List.reverse_cons, beN_snocK, beN_snocK, List.length_reverse, List.length_reverse, hl']
    have h1 := beN_lt a.reverse
    rw [List.length_reverse, hl'] at h1
    have : 256 ^ b.length * (x.toNat + 1) ≤ 256 ^ b.length * y.toNat := Nat.mul_le_mul_left _ hlt
    rw [Nat.mul_add, Nat.mul_one] at this
    omega
  | x :: a, y :: b, i + 1, hl, ht, h, h', hlt => by
    have hl' : a.length = b.length := by simpa using hl
    rw [List.take_succ_cons, List.take_succ_cons, List.cons.injEq] at ht
    obtain ⟨rfl, ht⟩ := ht
    have := beN_first hl' ht (by simpa using h) (by simpa using h') (by simpa using hlt)
    rw [List.reverse_cons, List.reverse_cons, beN_snocK, beN_snocK, List.length_reverse, List.length_reverse, hl']
    omega
theorem beN_inj : ∀ {a b : List UInt8}, a.length = b.length → beN a = beN b → a = b
  | [], [], _, _ => rfl
  | [], _ :: _, h, _ => by cases h
  | _ :: _, [], h, _ => by cases h
  | x :: a, y :: b, hl, h => by
    have hx := x.toNat_lt; have hy := y.toNat_lt
    have h' : x.toNat + 256 * beN a = y.toNat + 256 * beN b := h
    have h1 : x.toNat = y.toNat := by omega
    have h2 : a = b := beN_inj (by simpa using hl) (by omega)
    rw [UInt8.toNat_inj.1 h1, h2]
noncomputable def KeyT.num : KeyT → Nat := hid fun k => (beN k.at_.reverse * 2 + (if k.slot then 1 else 0)) * 115792089237316195423570985008687907853269984665640564039457584007913129639936 + k.key.num
theorem KeyT.num_eq (k : KeyT) : k.num = (beN k.at_.reverse * 2 + (if k.slot then 1 else 0)) * 115792089237316195423570985008687907853269984665640564039457584007913129639936 + k.key.num := by unfold KeyT.num; rw [hid_eq]
theorem KeyT.num_inj {x y : KeyT} (h : x.num = y.num) : x = y := by
  rw [x.num_eq, y.num_eq] at h
  have := x.key.num_lt; have := y.key.num_lt
  have h1 : x.key.num = y.key.num := by omega
  have h2 : beN x.at_.reverse * 2 + (if x.slot then 1 else 0) = beN y.at_.reverse * 2 + (if y.slot then 1 else 0) := by omega
  have hs : x.slot = y.slot := by cases hx : x.slot <;> cases hy : y.slot <;> rw [hx, hy] at h2 <;> first | rfl | (simp at h2; omega)
  have h3 : beN x.at_.reverse = beN y.at_.reverse := by rw [hs] at h2; omega
  exact KeyT.ext (List.reverse_inj.1 (beN_inj (by rw [List.length_reverse, List.length_reverse, x.hl, y.hl]) h3)) hs (W.num_inj h1)
theorem KeyT.num_at {x y : KeyT} {i : Nat} (h : i < 20) (ht : x.at_.take i = y.at_.take i) (hlt : (x.at_[i]'(by rw [x.hl]; exact h)).toNat < (y.at_[i]'(by rw [y.hl]; exact h)).toNat) : x.num < y.num := by
  have := beN_first (by rw [x.hl, y.hl]) ht _ _ hlt
  rw [x.num_eq, y.num_eq]
  have := x.key.num_lt
  have : (if x.slot then 1 else 0) ≤ 1 := by split <;> omega
  omega
theorem KeyT.num_slot {x y : KeyT} (ha : x.at_ = y.at_) (hx : x.slot = false) (hy : y.slot = true) : x.num < y.num := by
  have := x.key.num_lt
  rw [x.num_eq, y.num_eq, ha, hx, hy, if_neg (by decide), if_pos rfl]
  omega
theorem KeyT.num_key {x y : KeyT} (ha : x.at_ = y.at_) (hs : x.slot = y.slot) : (x.num < y.num ↔ x.key.num < y.key.num) ∧ (y.num < x.num ↔ y.key.num < x.key.num) := by
  rw [x.num_eq, y.num_eq, ha, hs]
  exact ⟨⟨fun h => by omega, fun h => by omega⟩, ⟨fun h => by omega, fun h => by omega⟩⟩
noncomputable def ordI (x y : KeyT) : Int := if x.num < y.num then -1 else if y.num < x.num then 1 else 0
theorem ordI_lt {x y : KeyT} (h : x.num < y.num) : ordI x y = -1 := by unfold ordI; rw [if_pos h]
theorem ordI_gt {x y : KeyT} (h : y.num < x.num) : ordI x y = 1 := by unfold ordI; rw [if_neg (by omega), if_pos h]
theorem ordI_key {x y : KeyT} (ha : x.at_ = y.at_) (hs : x.slot = y.slot) : ordI x y = x.key.cmp y.key := by
  obtain ⟨h1, h2⟩ := KeyT.num_key ha hs
  unfold ordI W.cmp
  simp only [h1, h2]
noncomputable def ordG : List Value → Option Value
  | [x, y] => (kOf x).bind fun a => (kOf y).bind fun b => some (.int .i64 (ordI a b))
  | _ => none
noncomputable def kmayG : List Value → Option Value
  | [x] => (kOf x).bind fun a => some (.bool (a.slot || decide (a.key = W.zero)))
  | _ => none
attribute [push_cast] ordG kmayG
theorem kbin_some {g : KeyT → KeyT → Value} {f : List Value → Option Value} (hf : f = fun l => match l with | [x, y] => (kOf x).bind fun a => (kOf y).bind fun b => some (g a b) | _ => none) {args : List Value} {v : Value} (h : f args = some v) : ∃ x y : KeyT, args = [x.v, y.v] ∧ v = g x y := by
  subst hf
  dsimp only at h
  split at h
  · rename_i x y
    cases hx : kOf x with
    | none => simp [hx] at h
    | some a =>
      cases hy : kOf y with
      | none => simp [hx, hy] at h
      | some b => simp [hx, hy] at h; exact ⟨a, b, by rw [kOf_some hx, kOf_some hy], h.symm⟩
  · cases h
end Go.Ev
