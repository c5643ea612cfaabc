/- EvZ: the evaluator's rules, as one set of rules for simp (the attribute 'push_cast': 'simp only [push_cast]'). -/
import Derived.Test.YtndioekjgmbomaaDoorEvO
import Derived.IntWalk
set_option linter.unusedSimpArgs false
set_option linter.unusedVariables false
namespace Go.Ev
attribute [push_cast] bKont oKont dKont d2Kont tKont oOps_nil oOps_cons oD_nil oD_take oD_one oD_two oD_race3 oD_race4 evTwo evOpK oC_skip oC_label oC_ret oC_exit oC_seq oC_block oC_cond oC_region oC_drawn oC_loop oC_range oC_scope oC_goto oUn_succ oUn_zero
attribute [push_cast] getT opd putT findE subL cellsAt ofCells loadV fieldAddrV partL fieldV idxV binV unV convV eqC eqV bnd hiB loB slAddr sliceV setSeg fillL optL buildV lenV minL maxL pickV extractV evQ
attribute [push_cast] fresh updE remE oneC storeV Kind.solid writeV lenX firstX evCopy evMake litV evLit repV_zero strOfV evBytes evCall evP evOp evTake ogd thenK blockK parT roSub roSub_self dropM resV resOf retK initT freshN undef allWr derE subT subH SubS marksOf Ent.wr addG noG ret0_ex
attribute [push_cast] Option.bind_some Option.bind_none Option.map_some Option.map_none Option.toList_some Option.toList_none List.head?_cons List.head?_nil Option.isNone_none Option.isNone_some Option.isSome_some Option.isSome_none
attribute [push_cast] List.map_cons List.map_nil List.getElem?_cons_zero List.getElem?_cons_succ List.getElem?_toArray List.length_cons List.length_nil List.cons_append List.nil_append List.append_nil List.take_succ_cons List.take_zero List.take_nil List.drop_succ_cons List.drop_zero List.drop_nil List.all_cons List.all_nil List.size_toArray
attribute [push_cast] Nat.zero_add Nat.add_zero Nat.sub_zero Nat.sub_self Nat.zero_mul Nat.mul_zero Nat.one_mul Nat.mul_one Nat.le_refl Int.toNat_natCast
attribute [push_cast] if_true if_false ite_true ite_false and_true true_and and_false false_and not_false_eq_true not_true_eq_false forall_const eq_self Bool.not_true Bool.not_false Bool.true_and Bool.false_and Bool.and_true Bool.and_false Option.some.injEq ne_eq Bool.false_eq_true or_true true_or or_false false_or implies_true false_implies
theorem add_add_sub (o a b : Nat) : o + a + b - o = a + b := by omega
attribute [push_cast] Nat.le_add_right Nat.le_add_right_of_le Nat.add_sub_cancel_left add_add_sub
/-! append, where the slice is known by its form (where it is not, it stays: EvP) -/
section
variable (P : Program) (H : Hp) (st xt : TypeId) (n c : Nat) (x : Value) (K : Value → Hp → Prop)
theorem evAppend_nil : evAppend P H st xt (.slice none n c) x K = (match slI P st with
  | none => False
  | some (e, sz, by_) => match srcL P H xt x sz with
    | none => False
    | some (ys, m) => (n = 0 ∧ c = 0) ∧ (m = 0 → K (.slice none 0 0) H) ∧ (0 < m → m * by_ ≤ two47 ∧ ∀ b c', fresh b H → m ≤ c' → K (.slice (some ⟨b, 0, none⟩) m c') (⟨b, 0, .vec e sz c', ys⟩ :: H))) := by
  unfold evAppend
  cases slI P st with
  | none => rfl
  | some t =>
    obtain ⟨e, sz, by_⟩ := t
    dsimp only
    cases srcL P H xt x sz with
    | none => rfl
    | some u => rfl
theorem evAppend_some (b o : Nat) : evAppend P H st xt (.slice (some ⟨b, o, none⟩) n c) x K = (match slI P st with
  | none => False
  | some (e, sz, by_) => match srcL P H xt x sz with
    | none => False
    | some (ys, m) => match findE H b with
        | some ⟨_, _, .vec e' sz' cap, xs⟩ => (o = 0 ∧ e' = e ∧ sz' = sz ∧ cap = c ∧ xs.length = n * sz) ∧ (n + m) * by_ ≤ two47 ∧ ys.all oneC = true ∧
            ∀ b' c', fresh b' (remE H b) → n + m ≤ c' → K (.slice (some ⟨b', 0, none⟩) (n + m) c') (⟨b', 0, .vec e sz c', xs ++ ys⟩ :: remE H b)
        | _ => False) := by
  unfold evAppend
  cases slI P st with
  | none => rfl
  | some t =>
    obtain ⟨e, sz, by_⟩ := t
    dsimp only
    cases srcL P H xt x sz with
    | none => rfl
    | some u => rfl
theorem srcL_none (m s : Nat) : srcL P H xt (.slice none m c) s = (match elemI P xt with
  | some (none, _, _) => if m = 0 then some ([], 0) else none
  | _ => none) := rfl
theorem srcL_some (b o m s : Nat) : srcL P H xt (.slice (some ⟨b, o, none⟩) m c) s = (match elemI P xt with
  | some (none, _, _) => match cellsAt H b o (m * s) with
      | some l => some (l, m)
      | none => if m = 0 then some ([], 0) else none
  | _ => none) := rfl
theorem srcL_str (b : ByteArray) (s : Nat) : srcL P H xt (.string b) s = if isStr P xt ∧ s = 1 then some (byteV b.data.toList, b.size) else none := rfl
end
attribute [push_cast] evAppend_nil evAppend_some srcL_none srcL_some srcL_str
theorem indexV_agg (P : Program) (t : TypeId) (cs : Array Value) (k : IntKind) (i : Int) : indexV P t (.agg cs) (.int k i) = (match elemI P t with
  | some (some n, s, ag) => if 0 ≤ i ∧ i < (n : Int) then partL ag cs (i.toNat * s) s else none
  | _ => none) := rfl
theorem indexV_string (P : Program) (t : TypeId) (b : ByteArray) (k : IntKind) (i : Int) : indexV P t (.string b) (.int k i) = if isStr P t then (if 0 ≤ i ∧ i < (b.size : Int) then (b.data[i.toNat]?).map (fun c => .int .u8 c.toNat) else none) else none := rfl
attribute [push_cast] indexV_agg indexV_string
theorem cells_int (k : IntKind) (n : Int) : (Value.int k n).cells = #[.int k n] := rfl
theorem cells_bool (b : Bool) : (Value.bool b).cells = #[.bool b] := rfl
theorem cells_string (b : ByteArray) : (Value.string b).cells = #[.string b] := rfl
theorem cells_slice (p : Option Addr) (n c : Nat) : (Value.slice p n c).cells = #[.slice p n c] := rfl
theorem cells_pointer (p : Option Addr) : (Value.pointer p).cells = #[.pointer p] := rfl
theorem cells_nilFunc : Value.nilFunc.cells = #[.nilFunc] := rfl
theorem cells_func (f : Fn) (x y : Array Value) : (Value.func f x y).cells = #[.func f x y] := rfl
theorem cells_agg (cs : Array Value) : (Value.agg cs).cells = cs := rfl
attribute [push_cast] cells_int cells_bool cells_string cells_slice cells_pointer cells_nilFunc cells_func cells_agg
/-! 'binQ' at values that are known by their form -/
section
variable (P : Program) (op : BinOp) (t : TypeId)
theorem binQ_int (k k' : IntKind) (a b : Int) : binQ P op t (.int k a) (.int k' b) = binV op (.int k a) (.int k' b) := by cases op <;> rfl
theorem binQ_string (a b : ByteArray) : binQ P op t (.string a) (.string b) = binV op (.string a) (.string b) := by cases op <;> rfl
theorem binQ_agg_eql (a b : Array Value) : binQ P .eql t (.agg a) (.agg b) = (eqV P t (.agg a) (.agg b)).map .bool := rfl
theorem binQ_agg_neq (a b : Array Value) : binQ P .neq t (.agg a) (.agg b) = (eqV P t (.agg a) (.agg b)).map fun r => .bool !r := rfl
theorem binQ_bool_eql (a b : Bool) : binQ P .eql t (.bool a) (.bool b) = (eqV P t (.bool a) (.bool b)).map .bool := rfl
theorem binQ_bool_neq (a b : Bool) : binQ P .neq t (.bool a) (.bool b) = (eqV P t (.bool a) (.bool b)).map fun r => .bool !r := rfl
theorem binQ_slice_eql (a : Option Addr) (n c : Nat) (y : Value) : binQ P .eql t (.slice a n c) y = (eqV P t (.slice a n c) y).map .bool := rfl
theorem binQ_slice_neq (a : Option Addr) (n c : Nat) (y : Value) : binQ P .neq t (.slice a n c) y = (eqV P t (.slice a n c) y).map fun r => .bool !r := rfl
theorem binQ_ptr_eql (a : Option Addr) (y : Value) : binQ P .eql t (.pointer a) y = (eqV P t (.pointer a) y).map .bool := rfl
theorem binQ_ptr_neq (a : Option Addr) (y : Value) : binQ P .neq t (.pointer a) y = (eqV P t (.pointer a) y).map fun r => .bool !r := rfl
end
attribute [push_cast] ptrV dataV ptrC usV binQ_ptr_eql binQ_ptr_neq byteL_byteV
attribute [push_cast] binQ_int binQ_string binQ_agg_eql binQ_agg_neq binQ_bool_eql binQ_bool_neq binQ_slice_eql binQ_slice_neq
/-! what is settled by reckoning -/
theorem wrap_i64' {n : Int} (h : -9223372036854775808 ≤ n ∧ n ≤ 9223372036854775807) : IntKind.i64.wrap n = n := IntWalk.i64_in n h
theorem wrap_u64' {n : Int} (h : 0 ≤ n ∧ n ≤ 18446744073709551615) : IntKind.u64.wrap n = n := IntWalk.u64_in n h
theorem wrap_u8' {n : Int} (h : 0 ≤ n ∧ n ≤ 255) : IntKind.u8.wrap n = n := IntWalk.u8_in n h
theorem wrap_i32' {n : Int} (h : -2147483648 ≤ n ∧ n ≤ 2147483647) : IntKind.i32.wrap n = n := IntWalk.i32_in n h
theorem wrap_u32' {n : Int} (h : 0 ≤ n ∧ n ≤ 4294967295) : IntKind.u32.wrap n = n := IntWalk.u32_in n h
attribute [push_cast] wrap_i64' wrap_u64' wrap_u8' wrap_i32' wrap_u32' Int.ofNat_lt Int.ofNat_le Int.natCast_nonneg Int.toNat_zero Int.toNat_one decide_true decide_false 
attribute [push_cast] Nat.zero_le beq_self_eq_true Int.zero_add Int.add_zero roundK and_self selB Int.natCast_pos Int.natCast_zero Int.add_sub_cancel
end Go.Ev
