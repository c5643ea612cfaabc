/- Texts of this claim, merged by program: Wa Wb Ta Tb Tc Td. -/
import Derived.Test.YtpcjmmdgopihcaaGreatDoorZgAe
import Derived.PlainAid
import Derived.Test.YtpcjmmdgopihcaaGreatDoorZgAd
set_option linter.unusedSimpArgs false
set_option linter.unusedVariables false
set_option maxRecDepth 100000
set_option maxHeartbeats 4000000
namespace Go.Ev
structure W where
 a : Nat
 b : Nat
 c : Nat
 d : Nat
 ha : a < 18446744073709551616
 hb : b < 18446744073709551616
 hc : c < 18446744073709551616
 hd : d < 18446744073709551616
def W.cells (w : W) : List Value := [.int .u64 w.a, .int .u64 w.b, .int .u64 w.c, .int .u64 w.d]
def W.v (w : W) : Value := .agg w.cells.toArray
def W.num (w : W) : Nat := w.a + 18446744073709551616 * (w.b + 18446744073709551616 * (w.c + 18446744073709551616 * w.d))
theorem W.eq {x y : W} (ha : x.a = y.a) (hb : x.b = y.b) (hc : x.c = y.c) (hd : x.d = y.d) : x = y := by
 cases x; cases y; simp at ha hb hc hd; subst ha hb hc hd; rfl
theorem W.num_inj {x y : W} (h : x.num = y.num) : x = y := by
 have := x.ha; have := x.hb; have := x.hc; have := x.hd; have := y.ha; have := y.hb; have := y.hc; have := y.hd
 unfold W.num at h
 refine W.eq ?_ ?_ ?_ ?_ <;> omega
theorem W.cells_inj {x y : W} (h : x.cells = y.cells) : x = y := by
 simp only [W.cells, List.cons.injEq, Value.int.injEq, true_and, and_true, Int.ofNat_inj] at h
 exact W.eq h.1 h.2.1 h.2.2.1 h.2.2.2
theorem W.v_inj {x y : W} (h : x.v = y.v) : x = y := by
 simp only [W.v, Value.agg.injEq] at h
 exact W.cells_inj (by simpa using congrArg Array.toList h)
instance : DecidableEq W := fun x y => if h : x.num = y.num then .isTrue (W.num_inj h) else .isFalse fun e => h (by rw [e])
def W.cmp (x y : W) : Int := if x.num < y.num then -1 else if y.num < x.num then 1 else 0
theorem W.cmp_lt {x y : W} (h : x.num < y.num) : -1 = x.cmp y := by unfold W.cmp; rw [if_pos h]
theorem W.cmp_gt {x y : W} (h : y.num < x.num) : 1 = x.cmp y := by unfold W.cmp; rw [if_neg (by omega), if_pos h]
theorem W.cmp_eq {x y : W} (h : x.num = y.num) : 0 = x.cmp y := by unfold W.cmp; rw [if_neg (by omega), if_neg (by omega)]
theorem W.num_d {x y : W} (h : x.d < y.d) : x.num < y.num := by
 have := x.ha; have := x.hb; have := x.hc; unfold W.num; omega
theorem W.num_c {x y : W} (hd : x.d = y.d) (h : x.c < y.c) : x.num < y.num := by
 have := x.ha; have := x.hb; unfold W.num; omega
theorem W.num_b {x y : W} (hd : x.d = y.d) (hc : x.c = y.c) (h : x.b < y.b) : x.num < y.num := by
 have := x.ha; unfold W.num; omega
theorem W.num_a {x y : W} (hd : x.d = y.d) (hc : x.c = y.c) (hb : x.b = y.b) (h : x.a < y.a) : x.num < y.num := by
 unfold W.num; omega
noncomputable def wOf (v : Value) : Option W := @dite (Option W) (∃ x : W, x.v = v) (Classical.propDecidable _) (fun h => some (Classical.choose h)) (fun _ => none)
theorem wOf_v (x : W) : wOf x.v = some x := by
 have h : ∃ y : W, y.v = x.v := ⟨x, rfl⟩
 unfold wOf
 rw [dif_pos h, W.v_inj (Classical.choose_spec h)]
theorem wOf_some {v : Value} {x : W} (h : wOf v = some x) : v = x.v := by
 unfold wOf at h
 by_cases hx : ∃ x : W, x.v = v
 · rw [dif_pos hx] at h; cases h; exact (Classical.choose_spec hx).symm
 · rw [dif_neg hx] at h; cases h
theorem W.v_cells (x : W) : x.v.cells = x.cells.toArray := rfl
theorem W.agg (x : W) : Value.agg x.cells.toArray = x.v := rfl
theorem W.len (x : W) : x.cells.length = 4 := rfl
theorem W.sub (x : W) : subL x.cells 0 4 = some x.cells := rfl
theorem W.sub0 (x : W) : subL x.cells 0 1 = some [.int .u64 x.a] := rfl
theorem W.sub1 (x : W) : subL x.cells 1 1 = some [.int .u64 x.b] := rfl
theorem W.sub2 (x : W) : subL x.cells 2 1 = some [.int .u64 x.c] := rfl
theorem W.sub3 (x : W) : subL x.cells 3 1 = some [.int .u64 x.d] := rfl
theorem W.take (x : W) : List.take 4 x.cells = x.cells := rfl
theorem W.t0 (x : W) : List.take 1 x.cells = [.int .u64 x.a] := rfl
theorem W.t1 (x : W) : List.take 1 (List.drop 1 x.cells) = [.int .u64 x.b] := rfl
theorem W.t2 (x : W) : List.take 1 (List.drop 2 x.cells) = [.int .u64 x.c] := rfl
theorem W.t3 (x : W) : List.take 1 (List.drop 3 x.cells) = [.int .u64 x.d] := rfl
theorem W.all1 (x : W) : x.cells.all oneC = true := rfl
theorem W.takeA (x : W) (l : List Value) : List.take 4 (x.cells ++ l) = x.cells := rfl
theorem W.dropA (x : W) (l : List Value) : List.drop 4 (x.cells ++ l) = l := rfl
theorem W.dropB (x : W) (l : List Value) (n : Nat) : List.drop (n + 4) (x.cells ++ l) = List.drop n l := rfl
theorem W.drop4 (x : W) : List.drop 4 x.cells = [] := rfl
theorem W.take0 (x : W) (l : List Value) (n : Nat) : List.take (n + 4) (x.cells ++ l) = x.cells ++ List.take n l := rfl
def W.zero : W := ⟨0, 0, 0, 0, by decide, by decide, by decide, by decide⟩
attribute [push_cast] wOf_v W.v_cells W.agg W.len W.sub W.sub0 W.sub1 W.sub2 W.sub3 W.take W.t0 W.t1 W.t2 W.t3 W.all1 W.takeA W.dropA W.dropB W.drop4 W.take0 List.append_assoc List.length_append List.toList_toArray
theorem sub1 {K : Value → Hp → Prop} {v : Value} {e : Ent} {H : Hp} (h : K v [e]) : ∃ H', List.Sublist H' (e :: H) ∧ K v H' := ⟨[e], (List.nil_sublist H).cons_cons e, h⟩
theorem sub0 {K : Value → Hp → Prop} {v : Value} {H : Hp} (h : K v []) : ∃ H', List.Sublist H' H ∧ K v H' := ⟨[], List.nil_sublist H, h⟩
def W.ofInt (n : Int) : W := if 0 ≤ n then ⟨n.toNat % 18446744073709551616, 0, 0, 0, Nat.mod_lt _ (by decide), by decide, by decide, by decide⟩
 else ⟨(n + 18446744073709551616).toNat % 18446744073709551616, 18446744073709551615, 18446744073709551615, 18446744073709551615, Nat.mod_lt _ (by decide), by decide, by decide, by decide⟩
def NewS (e s : Nat) (n : Nat) (cells : List Value) : Value → Hp → Prop := fun v N => ∃ b c, v = .slice (some ⟨b, 0, none⟩) n c ∧ n ≤ c ∧ N = [⟨b, 0, .vec e s c, cells⟩]
def nums (l : List Nat) : List Value := l.map fun (x : Nat) => Value.int .u64 (x : Int)
def cmpN (x y : Int) : Int := if x < y then -1 else if y < x then 1 else 0
end Go.Ev
namespace Go.Proofs.YtpcjmmdgopihcaaGreatDoor
open Go Go.Ev Go.Proofs
theorem isNaN (x : Int) : CallsV Tryz.prog 159 [.int .u64 x] [] (Ret0 (.bool false)) := by
 refine callsO (noG_ok _) Tryz.mix Tryz.pl159 Tryz.func159 rfl Tryz.ntmps159 Tryz.results159 rfl (by first | rfl | assumption) (Nat.le_of_ble_eq_true rfl) (by kernel_rfl) ?_
 simp only [push_cast, seval, reduceCtorEq, bne_self_eq_false]
theorem compare (x y : Int) : CallsV Tryz.prog 153 [.int .u64 x, .int .u64 y] [] (Ret0 (.int .i64 (cmpN x y))) := by
 refine callsO (noG_ok _) Tryz.mix Tryz.pl153 Tryz.func153 rfl Tryz.ntmps153 Tryz.results153 rfl (by first | rfl | assumption) (Nat.le_of_ble_eq_true rfl) (by kernel_rfl) ?_
 simp only [push_cast, seval, reduceCtorEq]
 refine (isNaN x).pure trivial ?_
 simp only [push_cast, seval, reduceCtorEq]
 refine (isNaN y).pure trivial ?_
 simp only [push_cast, seval, reduceCtorEq, cmpN, Value.int.injEq]
 simp only [sel_ite, decide_eq_true_eq, bne_iff_ne, ne_eq, beq_iff_eq]
 repeat' split
 all_goals omega
def cmpG : List Value → Option Value
 | [.int .u64 x, .int .u64 y] => some (.int .i64 (cmpN x y))
 | _ => none
attribute [push_cast] cmpG
theorem cmpG_ok (args : List Value) (v : Value) (h : cmpG args = some v) : CallsV Tryz.prog 153 args [] (Ret0 v) := by
 unfold cmpG at h
 split at h
 · cases h; exact compare _ _
 · cases h
def gA : Gam := addG 153 cmpG noG
attribute [push_cast] gA
theorem gA_ok : GamOk Tryz.prog gA := addG_ok cmpG_ok (noG_ok _)
theorem clone4 (b o c : Nat) (v0 v1 v2 v3 : Nat) :
  CallsV Tryz.prog 157 [.slice (some ⟨b, o, none⟩) 4 c] [⟨b, o, .ro, nums [v0, v1, v2, v3]⟩] (NewS 26 1 4 (nums [v0, v1, v2, v3])) := by
 refine callsO (noG_ok _) Tryz.mix Tryz.pl157 Tryz.func157 rfl Tryz.ntmps157 Tryz.results157 rfl (by first | rfl | assumption) (Nat.le_of_ble_eq_true rfl) (by kernel_rfl) ?_
 simp only [push_cast, seval, reduceCtorEq, nums]
 intro b1 hb1
 simp only [push_cast, seval, reduceCtorEq, nums, hb1, two47, oneC]
 exact fun b2 c2 hb2 hc2 => sub1 ⟨b2, c2, rfl, hc2, rfl⟩
theorem reverse4 (b : Nat) (c : Nat) (v0 v1 v2 v3 : Nat) :
  CallsV Tryz.prog 158 [.slice (some ⟨b, 0, none⟩) 4 c] [⟨b, 0, .vec 26 1 c, nums [v0, v1, v2, v3]⟩] (fun v N => v = .tuple #[] ∧ N = [⟨b, 0, .vec 26 1 c, nums [v3, v2, v1, v0]⟩]) := by
 refine callsO (noG_ok _) Tryz.mix Tryz.pl158 Tryz.func158 rfl Tryz.ntmps158 Tryz.results158 rfl (by first | rfl | assumption) (Nat.le_of_ble_eq_true rfl) (by kernel_rfl) ?_
 simp only [push_cast, seval, reduceCtorEq, nums]
 refine unrollO (noG_ok _) (pl := Tryz.pl158) Tryz.mix 3 (by kernel_rfl) ?_
 simp only [push_cast, seval, reduceCtorEq]
 exact ⟨_, .refl _, rfl⟩
theorem reversed4 (b o c : Nat) (v0 v1 v2 v3 : Nat) :
  CallsV Tryz.prog 152 [.slice (some ⟨b, o, none⟩) 4 c] [⟨b, o, .ro, nums [v0, v1, v2, v3]⟩] (NewS 26 1 4 (nums [v3, v2, v1, v0])) := by
 refine callsO (noG_ok _) Tryz.mix Tryz.pl152 Tryz.func152 rfl Tryz.ntmps152 Tryz.results152 rfl (by first | rfl | assumption) (Nat.le_of_ble_eq_true rfl) (by kernel_rfl) ?_
 simp only [push_cast, seval, reduceCtorEq]
 refine (clone4 b o c v0 v1 v2 v3).use ?_ ?_
 · simp only [push_cast, seval, reduceCtorEq, nums]
 rintro v N ⟨b1, c1, rfl, hc1, rfl⟩
 simp only [push_cast, seval, reduceCtorEq, nums]
 intro hb1
 refine CallsV.useM (m := ⟨b1, 0, .vec 26 1 c1, nums [v0, v1, v2, v3]⟩) (Hf := []) (reverse4 b1 c1 v0 v1 v2 v3) ?_ rfl trivial ?_
 · simp only [push_cast, seval, reduceCtorEq, nums]
 rintro v N ⟨rfl, rfl⟩
 simp only [push_cast, seval, reduceCtorEq, nums, hb1]
 exact sub1 ⟨b1, c1, rfl, hc1, rfl⟩
def cmp4 (a b c d a' b' c' d' : Nat) : Int := if cmpN a a' ≠ 0 then cmpN a a' else if cmpN b b' ≠ 0 then cmpN b b' else if cmpN c c' ≠ 0 then cmpN c c' else cmpN d d'
theorem compareFunc4 (b c b' c' : Nat) (hbb : b' ≠ b) (v0 v1 v2 v3 w0 w1 w2 w3 : Nat) :
  CallsV Tryz.prog 151 [.slice (some ⟨b, 0, none⟩) 4 c, .slice (some ⟨b', 0, none⟩) 4 c', .func (.func 153) #[] #[]] [⟨b, 0, .ro, nums [v0, v1, v2, v3]⟩, ⟨b', 0, .ro, nums [w0, w1, w2, w3]⟩]
   (Ret0 (.int .i64 (cmp4 v0 v1 v2 v3 w0 w1 w2 w3))) := by
 refine callsO gA_ok Tryz.mix Tryz.pl151 Tryz.func151 rfl Tryz.ntmps151 Tryz.results151 rfl (by first | rfl | assumption) (Nat.le_of_ble_eq_true rfl) (by kernel_rfl) ?_
 simp only [push_cast, seval, reduceCtorEq, nums]
 refine unrollO gA_ok (pl := Tryz.pl151) Tryz.mix 5 (by kernel_rfl) ?_
 simp only [push_cast, seval, reduceCtorEq, hbb, Value.int.injEq]
 simp only [sel_ite, decide_eq_true_eq, bne_iff_ne, ne_eq, beq_iff_eq, cmp4]
 split
 · rfl
 split
 · rfl
 split
 · rfl
 split
 · rfl
 · rename_i h
   omega
theorem cmp4_W (x y : W) : cmp4 x.d x.c x.b x.a y.d y.c y.b y.a = x.cmp y := by
 have := x.ha; have := x.hb; have := x.hc; have := x.hd; have := y.ha; have := y.hb; have := y.hc; have := y.hd
 unfold cmp4 cmpN W.cmp W.num
 repeat' split
 all_goals omega
theorem W.nums (x : W) : x.cells = nums [x.a, x.b, x.c, x.d] := rfl
theorem wordCmp (x y : W) : CallsV Tryz.prog 141 [x.v, y.v] [] (Ret0 (.int .i64 (x.cmp y))) := by
 refine callsO gA_ok Tryz.mix Tryz.pl141 Tryz.func141 rfl Tryz.ntmps141 Tryz.results141 rfl (by first | rfl | assumption) (Nat.le_of_ble_eq_true rfl) (by kernel_rfl) ?_
 simp only [push_cast, seval, reduceCtorEq]
 intro b1 b2 hb2
 refine (reversed4 b1 0 4 x.a x.b x.c x.d).use ?_ ?_
 · simp only [push_cast, seval, reduceCtorEq, hb2, ← W.nums]
 rintro v N ⟨b3, c3, rfl, hc3, rfl⟩
 simp only [push_cast, seval, reduceCtorEq, nums]
 intro hb3
 simp only [push_cast, seval, reduceCtorEq, hb2, hb3]
 refine (reversed4 b2 0 4 y.a y.b y.c y.d).use ?_ ?_
 · simp only [push_cast, seval, reduceCtorEq, hb2, hb3, ← W.nums]
 rintro v N ⟨b4, c4, rfl, hc4, rfl⟩
 simp only [push_cast, seval, reduceCtorEq, nums]
 intro hb4
 simp only [push_cast, seval, reduceCtorEq, hb2, hb3, hb4]
 refine TakeV.mk ?_ (compareFunc4 b3 c3 b4 c4 hb4.1 x.d x.c x.b x.a y.d y.c y.b y.a) ?_
 · simp only [push_cast, seval, reduceCtorEq, nums, hb2, hb3, hb4]
 · simp only [push_cast, seval, reduceCtorEq, cmp4_W]
end Go.Proofs.YtpcjmmdgopihcaaGreatDoor
namespace Go.Proofs.YtpcjmmdgopihcaaGreatDoor
open Go Go.Ev Go.Proofs
theorem refCmp (x y : W) : CallsV Tryz.prog 61 [x.v, y.v] [] (Ret0 (.int .i64 (x.cmp y))) := by
 refine callsO (noG_ok _) Tryz.mix Tryz.pl61 Tryz.func61 rfl Tryz.ntmps61 Tryz.results61 rfl (by first | rfl | assumption) (Nat.le_of_ble_eq_true rfl) (by kernel_rfl) ?_
 simp only [push_cast, seval, reduceCtorEq]
 intro b1 b2 hb2
 refine unrollO (noG_ok _) (pl := Tryz.pl61) Tryz.mix 5 (by kernel_rfl) ?_
 simp only [push_cast, seval, reduceCtorEq, hb2, Value.int.injEq]
 simp only [sel_ite, decide_eq_true_eq, bne_iff_ne, ne_eq, beq_iff_eq]
 split
 · exact W.cmp_lt (W.num_d (by assumption))
 split
 · exact W.cmp_gt (W.num_d (by assumption))
 have hd : x.d = y.d := by omega
 split
 · exact W.cmp_lt (W.num_c hd (by assumption))
 split
 · exact W.cmp_gt (W.num_c hd.symm (by assumption))
 have hc : x.c = y.c := by omega
 split
 · exact W.cmp_lt (W.num_b hd hc (by assumption))
 split
 · exact W.cmp_gt (W.num_b hd.symm hc.symm (by assumption))
 have hb : x.b = y.b := by omega
 split
 · exact W.cmp_lt (W.num_a hd hc hb (by assumption))
 split
 · exact W.cmp_gt (W.num_a hd.symm hc.symm hb.symm (by assumption))
 have ha : x.a = y.a := by omega
 exact W.cmp_eq (by rw [W.eq ha hb hc hd])
theorem refOf (n : Int) (hn : -9223372036854775808 ≤ n ∧ n ≤ 9223372036854775807) : CallsV Tryz.prog 29 [.int .i64 n] [] (Ret0 (W.ofInt n).v) := by
 refine callsO (noG_ok _) Tryz.mix Tryz.pl29 Tryz.func29 rfl Tryz.ntmps29 Tryz.results29 rfl (by first | rfl | assumption) (Nat.le_of_ble_eq_true rfl) (by kernel_rfl) ?_
 simp only [push_cast, seval, reduceCtorEq]
 intro b1 b2 hb2
 rcases Int.lt_or_le n 0 with h | h
 · simp only [push_cast, seval, reduceCtorEq, h, hb2]
   refine unrollO (noG_ok _) (pl := Tryz.pl29) Tryz.mix 4 (by kernel_rfl) ?_
   simp only [push_cast, seval, reduceCtorEq, hb2]
   rw [W.ofInt, if_neg (by omega), PlainAid.u64_neg h (by omega)]
   simp only [W.v, W.cells, Value.agg.injEq]
   congr 2
   simp only [Value.int.injEq, true_and]
   omega
 · simp only [push_cast, seval, reduceCtorEq, Int.not_lt.2 h, hb2]
   rw [W.ofInt, if_pos (by omega), PlainAid.u64_nonneg (by omega) (by omega)]
   simp only [W.v, W.cells, Value.agg.injEq]
   congr 2
   simp only [Value.int.injEq, true_and]
   omega
end Go.Proofs.YtpcjmmdgopihcaaGreatDoor
namespace Go.Ev
structure Sl where
 key : W
 val : W
def Sl.cells (x : Sl) : List Value := x.key.cells ++ x.val.cells
def Sl.v (x : Sl) : Value := .agg x.cells.toArray
theorem Sl.len (x : Sl) : x.cells.length = 8 := rfl
theorem Sl.take8 (x : Sl) : List.take 8 x.cells = x.cells := rfl
theorem Sl.key0 (x : Sl) : List.take 4 x.cells = x.key.cells := rfl
theorem Sl.val4 (x : Sl) : List.take 4 (List.drop 4 x.cells) = x.val.cells := rfl
theorem Sl.all1 (x : Sl) : x.cells.all oneC = true := rfl
theorem Sl.eta (x : Sl) : x.key.cells ++ x.val.cells = x.cells := rfl
theorem Sl.drop8 (x : Sl) (l : List Value) : List.drop 8 (x.cells ++ l) = l := rfl
theorem Sl.drop8' (x : Sl) : List.drop 8 x.cells = [] := rfl
theorem Sl.agg (x : Sl) : Value.agg x.cells.toArray = x.v := rfl
theorem Sl.v_cells (x : Sl) : x.v.cells = x.cells.toArray := rfl
theorem Sl.pair (k v : W) : k.cells ++ v.cells = (Sl.mk k v).cells := rfl
instance : DecidableEq Sl := fun x y => if h : x.key = y.key ∧ x.val = y.val then .isTrue (by cases x; cases y; cases h.1; cases h.2; rfl) else .isFalse fun e => h (by rw [e]; exact ⟨rfl, rfl⟩)
def slC (l : List Sl) : List Value := l.flatMap Sl.cells
theorem slC_len (l : List Sl) : (slC l).length = l.length * 8 := by
 unfold slC
 induction l with
 | nil => rfl
 | cons x r ih => simp only [List.flatMap_cons, List.length_append, ih, Sl.len, List.length_cons]; omega
theorem slC_drop (l : List Sl) (i : Nat) : (slC l).drop (i * 8) = slC (l.drop i) := by
 induction l generalizing i with
 | nil => simp [slC]
 | cons x r ih =>
   cases i with
   | zero => simp
   | succ i =>
     have h8 : x.cells.length = 8 := rfl
     rw [show slC (x :: r) = x.cells ++ slC r from rfl, show (i + 1) * 8 = x.cells.length + i * 8 by rw [h8]; omega, List.drop_append, List.drop_succ_cons]
     simp only [Nat.add_sub_cancel_left, ih]
     rw [List.drop_eq_nil_of_le (by omega), List.nil_append]
theorem slC_app (l m : List Sl) : slC (l ++ m) = slC l ++ slC m := by simp [slC]
theorem slC_one (x : Sl) : slC [x] = x.cells := by simp [slC]
theorem slC_at {l : List Sl} {i : Nat} {x : Sl} (h : l[i]? = some x) : i * 8 + 8 ≤ (slC l).length ∧ i * 8 + 4 ≤ (slC l).length ∧ i * 8 + 4 + 4 ≤ (slC l).length ∧
  List.take 8 (List.drop (i * 8) (slC l)) = x.cells ∧ List.take 4 (List.drop (i * 8) (slC l)) = x.key.cells ∧ List.take 4 (List.drop (i * 8 + 4) (slC l)) = x.val.cells := by
 have hi := (List.getElem?_eq_some_iff.1 h).1
 have hd : l.drop i = x :: l.drop (i + 1) := by
  rw [List.drop_eq_getElem_cons hi, (List.getElem?_eq_some_iff.1 h).2]
 rw [slC_len, ← List.drop_drop, slC_drop, hd]
 refine ⟨by omega, by omega, by omega, ?_, ?_, ?_⟩ <;> rfl
def SlH (l : List Sl) (v : Value) (Hf : Hp) : Prop := ∃ p c, v = .slice p l.length c ∧ ((l = [] ∧ Hf = []) ∨ ∃ b o, p = some ⟨b, o, none⟩ ∧ Hf = [⟨b, o, .ro, slC l⟩])
def SlR (H : Hp) (l : List Sl) (v : Value) : Prop := ∃ p c, v = .slice p l.length c ∧ (l = [] ∨ ∃ b o, p = some ⟨b, o, none⟩ ∧ cellsAt H b o (l.length * 8) = some (slC l))
theorem SlR.h {H : Hp} {l : List Sl} {v : Value} (h : SlR H l v) : ∃ Hf, SlH l v Hf ∧ derE H Hf := by
 obtain ⟨p, c, rfl, rfl | ⟨b, o, rfl, hb⟩⟩ := h
 · exact ⟨[], ⟨p, c, rfl, .inl ⟨rfl, rfl⟩⟩, trivial⟩
 · refine ⟨[⟨b, o, .ro, slC l⟩], ⟨_, c, rfl, .inr ⟨b, o, rfl, rfl⟩⟩, ⟨rfl, ?_⟩, trivial⟩
   simpa only [slC_len] using hb
def OutS (e : Nat) (l : List Sl) (v : Value) (N : Hp) : Prop := (l = [] ∧ v = .slice none 0 0 ∧ N = []) ∨ ∃ b c, l ≠ [] ∧ v = .slice (some ⟨b, 0, none⟩) l.length c ∧ l.length ≤ c ∧ N = [⟨b, 0, .vec e 8 c, slC l⟩]
theorem fresh_find {b : Nat} : ∀ {H : Hp}, fresh b H → ∀ {c : Nat} {e : Ent}, findE H c = some e → ¬ b = c ∧ ¬ c = b
 | [], _, _, _, h => by simp [findE] at h
 | x :: r, hf, c, e, h => by
   simp only [findE] at h
   by_cases hc : c = x.blk
   · subst hc; exact ⟨hf.1, hf.2.1⟩
   · rw [if_neg hc] at h; exact fresh_find hf.2.2 h
theorem findE_fresh {b : Nat} : ∀ {H : Hp}, fresh b H → ∀ e ∈ H, ¬ e.blk = b
 | _ :: _, hf, e, he => by
   rcases List.mem_cons.1 he with rfl | he
   · exact hf.2.1
   · exact findE_fresh hf.2.2 e he
theorem subH_skip {e : Ent} : ∀ {L H : Hp}, fresh e.blk H → (subH (e :: L) H) = (subH L H)
 | _, [], _ => rfl
 | L, f :: r, h => by
   simp only [subH, findE, remE]
   rw [if_neg h.2.1, if_neg h.2.1, subH_skip h.2.2]
attribute [push_cast] slC_one Sl.eta Sl.all1 Sl.drop8 Sl.drop8' Sl.len Sl.take8 Sl.key0 Sl.val4 Sl.agg Sl.v_cells subH_self subH_skip
end Go.Ev
namespace Go.Proofs.YtpcjmmdgopihcaaGreatDoor
open Go Go.Ev Go.Proofs
theorem of_ok {Hf : Hp} {l : List Sl} {v : Value} (hv : SlH l v Hf) (hn : l.length ≤ 2199023255551) :
  CallsV Tryz.prog 116 [v] Hf (fun u N => ∃ w, u = .agg #[w, .func (.func 141) #[] #[]] ∧ OutS 179 l w N) := by
 obtain ⟨p, c, rfl, ⟨rfl, rfl⟩ | ⟨b, o, rfl, rfl⟩⟩ := hv
 · refine callsO (noG_ok _) Tryz.mix Tryz.pl116 Tryz.func116 rfl Tryz.ntmps116 Tryz.results116 rfl (by first | rfl | assumption) (Nat.le_of_ble_eq_true rfl) (by kernel_rfl) ?_
   simp only [push_cast, seval, reduceCtorEq]
   intro b2 b3 hb3
   refine unrollO (noG_ok _) (pl := Tryz.pl116) Tryz.mix 1 (by kernel_rfl) ?_
   simp only [push_cast, seval, reduceCtorEq, hb3]
   exact ⟨[], List.nil_sublist _, _, rfl, .inl ⟨rfl, rfl, rfl⟩⟩
 refine callsO (noG_ok _) Tryz.mix Tryz.pl116 Tryz.func116 rfl Tryz.ntmps116 Tryz.results116 rfl (by first | rfl | assumption) (Nat.le_of_ble_eq_true rfl) (by kernel_rfl) ?_
 simp only [push_cast, seval, reduceCtorEq]
 intro b2 hb2 b3 hb3
 refine loopO (noG_ok _) (pl := Tryz.pl116) Tryz.mix (X := Nat × Value × Hp)
  (fun x => ([(2, .pointer (some ⟨b2, 0, none⟩)), (3, .pointer (some ⟨b3, 0, none⟩)), (7, .slice (some ⟨b, o, none⟩) l.length c), (8, .int .i64 l.length), (9, .int .i64 x.1)],
   ⟨b2, 0, .cel 140, [.slice none 0 0, .nilFunc]⟩ :: ⟨b3, 0, .cel 140, [x.2.1, .func (.func 141) #[] #[]]⟩ :: ⟨b, o, .ro, slC l⟩ :: x.2.2))
  (fun x => x.1 ≤ l.length ∧ OutS 179 (l.take x.1) x.2.1 x.2.2 ∧ freshN x.2.2 [⟨b2, 0, .ro, []⟩, ⟨b3, 0, .ro, []⟩, ⟨b, 0, .ro, []⟩]) (fun x => l.length - x.1) (0, .slice none 0 0, []) ?_ ?_ (by kernel_rfl) ?_
 · exact ⟨Nat.zero_le _, .inl ⟨rfl, rfl, rfl⟩, trivial⟩
 · simp only [push_cast, seval, reduceCtorEq, *]
 · rintro ⟨k, w, N⟩ ⟨hk, ho, hf⟩
   dsimp only at hk ho hf ⊢
   rcases Nat.lt_or_ge k l.length with hlt | hge
   · obtain ⟨x, hx⟩ : ∃ x, l[k]? = some x := ⟨l[k], List.getElem?_eq_getElem hlt⟩
     have htk : l.take (k + 1) = l.take k ++ [x] := by rw [List.take_add_one, hx]; rfl
     have hat := slC_at hx
     have hkl : (l.take k).length = k := by simp; omega
     rcases ho with ⟨h0, rfl, rfl⟩ | ⟨bo, co, h0, rfl, hco, rfl⟩
     · simp only [push_cast, seval, reduceCtorEq, hlt, hat, hb2, hb3]
       intro b4 hb4
       simp only [push_cast, seval, reduceCtorEq, hlt, hat, hb2, hb3, hb4]
       intro b5 hb5
       refine ⟨by unfold two47; omega, fun b6 c6 hb6 hc6 => ?_⟩
       simp only [push_cast, seval, reduceCtorEq, hb2, hb3, hb4, hb5, hb6, wrap_i64' (show -9223372036854775808 ≤ (k : Int) + 1 ∧ (k : Int) + 1 ≤ 9223372036854775807 by omega)]
       have h1 : (l.take (k + 1)) = [x] := by rw [htk, h0]; rfl
       refine ⟨(k + 1, .slice (some ⟨b6, 0, none⟩) 1 c6, [⟨b6, 0, .vec 179 8 c6, slC [x]⟩]), ⟨hlt, ?_, ?_⟩, ?_, ?_⟩
       · rw [h1]; exact .inr ⟨b6, c6, by simp, rfl, hc6, rfl⟩
       · simp only [push_cast, seval, reduceCtorEq, hb6]
       · show l.length - (k + 1) < l.length - k
         omega
       · simp only [push_cast, seval, reduceCtorEq, hb6, hb5, hb4, hb3, hb2]
     · simp only [push_cast, seval, reduceCtorEq] at hf
       simp only [push_cast, seval, reduceCtorEq, hlt, hat, hb2, hb3, hf]
       intro b4 hb4
       simp only [push_cast, seval, reduceCtorEq, hlt, hat, hb2, hb3, hb4, hf]
       intro b5 hb5
       simp only [push_cast, seval, reduceCtorEq, hb2, hb3, hb4, hb5, hf, hkl, slC_len]
       refine ⟨by unfold two47; omega, fun b6 c6 hb6 hc6 => ?_⟩
       simp only [push_cast, seval, reduceCtorEq, hb2, hb3, hb4, hb5, hb6, hf, wrap_i64' (show -9223372036854775808 ≤ (k : Int) + 1 ∧ (k : Int) + 1 ≤ 9223372036854775807 by omega)]
       refine ⟨(k + 1, .slice (some ⟨b6, 0, none⟩) (k + 1) c6, [⟨b6, 0, .vec 179 8 c6, slC (l.take (k + 1))⟩]), ⟨hlt, ?_, ?_⟩, ?_, ?_⟩
       · refine .inr ⟨b6, c6, by rw [htk]; simp, by simp; omega, by simp; omega, rfl⟩
       · simp only [push_cast, seval, reduceCtorEq, hb6]
       · show l.length - (k + 1) < l.length - k
         omega
       · simp only [push_cast, seval, reduceCtorEq, htk, slC_app, hb6, hb5, hb4, hb3, hb2]
   · obtain rfl : k = l.length := by omega
     simp only [push_cast, seval, reduceCtorEq, hb2, hb3, Nat.lt_irrefl]
     rw [List.take_length] at ho
     rcases ho with ⟨h0, rfl, rfl⟩ | ⟨bo, co, h0, rfl, hco, rfl⟩
     · simp only [push_cast, seval, reduceCtorEq, hb2, hb3]
       exact ⟨[], List.nil_sublist _, _, rfl, .inl ⟨h0, rfl, rfl⟩⟩
     · simp only [push_cast, seval, reduceCtorEq, hb2, hb3]
       exact ⟨[_], (((List.Sublist.refl _).cons _).cons _).cons _, _, rfl, .inr ⟨bo, co, h0, rfl, hco, rfl⟩⟩
end Go.Proofs.YtpcjmmdgopihcaaGreatDoor
namespace Go.Ev
def Rises (l : List Sl) : Prop := ∀ i x y, l[i]? = some x → l[i + 1]? = some y → x.key.num < y.key.num
noncomputable def risesB (l : List Sl) : Bool := @decide (Rises l) (Classical.propDecidable _)
theorem risesB_true {l : List Sl} (h : Rises l) : risesB l = true := by unfold risesB; simpa using h
theorem risesB_false {l : List Sl} (h : ¬ Rises l) : risesB l = false := by unfold risesB; simpa using h
theorem W.cmp_neg {x y : W} : x.cmp y < 0 ↔ x.num < y.num := by unfold W.cmp; repeat' split <;> omega
theorem SlH.marks {l : List Sl} {v : Value} {Hf : Hp} (h : SlH l v Hf) : marksOf Hf = [] := by
 obtain ⟨p, c, rfl, ⟨rfl, rfl⟩ | ⟨b, o, rfl, rfl⟩⟩ := h <;> rfl
theorem SlH.r {l : List Sl} {v : Value} {Hf : Hp} (h : SlH l v Hf) : SlR Hf l v := by
 obtain ⟨p, c, rfl, ⟨rfl, rfl⟩ | ⟨b, o, rfl, rfl⟩⟩ := h
 · exact ⟨p, c, rfl, .inl rfl⟩
 · refine ⟨_, c, rfl, .inr ⟨b, o, rfl, ?_⟩⟩
   simp only [cellsAt, findE, if_true, Nat.le_refl, Nat.sub_self, subL, Nat.zero_add, slC_len, List.drop_zero]
   rw [← slC_len, List.take_length]
theorem SlH.der {l : List Sl} {v : Value} {Hf : Hp} (h : SlH l v Hf) : derE Hf Hf := by
 have hr := h.r
 obtain ⟨p, c, rfl, ⟨rfl, rfl⟩ | ⟨b, o, rfl, rfl⟩⟩ := h
 · trivial
 · refine ⟨⟨rfl, ?_⟩, trivial⟩
   simp only [cellsAt, findE, if_true, Nat.le_refl, Nat.sub_self, subL, Nat.zero_add, List.drop_zero, List.take_length]
theorem OutS.wr {e : Nat} {l : List Sl} {v : Value} {N : Hp} (h : OutS e l v N) : allWr N ∧ marksOf N = [] := by
 obtain ⟨rfl, rfl, rfl⟩ | ⟨b, c, h0, rfl, hc, rfl⟩ := h
 · exact ⟨trivial, rfl⟩
 · exact ⟨⟨trivial, trivial⟩, rfl⟩
theorem OutS.r {e : Nat} {l : List Sl} {v : Value} {N H : Hp} (h : OutS e l v N) : SlR (N ++ H) l v := by
 obtain ⟨rfl, rfl, rfl⟩ | ⟨b, c, h0, rfl, hc, rfl⟩ := h
 · exact ⟨none, 0, rfl, .inl rfl⟩
 · refine ⟨_, c, rfl, .inr ⟨b, 0, rfl, ?_⟩⟩
   simp only [cellsAt, List.cons_append, findE, if_true, Nat.le_refl, Nat.sub_self, subL, Nat.zero_add, slC_len, List.drop_zero]
   rw [← slC_len, List.take_length]
noncomputable def patchB (l : List Sl) : Bool := decide (l.length ≤ 1000) && risesB l
noncomputable def cmpWG : List Value → Option Value
 | [x, y] => (wOf x).bind fun a => (wOf y).bind fun b => some (.int .i64 (a.cmp b))
 | _ => none
attribute [push_cast] cmpWG
theorem cmpWG_some {args : List Value} {v : Value} (h : cmpWG args = some v) : ∃ x y : W, args = [x.v, y.v] ∧ v = .int .i64 (x.cmp y) := by
 unfold cmpWG at h
 split at h
 · rename_i x y
   cases hx : wOf x with
   | none => simp [hx] at h
   | some a =>
     cases hy : wOf y with
     | none => simp [hx, hy] at h
     | some b => simp [hx, hy] at h; exact ⟨a, b, by rw [wOf_some hx, wOf_some hy], h.symm⟩
 · cases h
end Go.Ev
namespace Go.Proofs.YtpcjmmdgopihcaaGreatDoor
open Go Go.Ev Go.Proofs
noncomputable def gB : Gam := addG 141 cmpWG (addG 61 cmpWG noG)
attribute [push_cast] gB
theorem gB_ok : GamOk Tryz.prog gB := by
 refine addG_ok (fun args v h => ?_) (addG_ok (fun args v h => ?_) (noG_ok _))
 · obtain ⟨x, y, rfl, rfl⟩ := cmpWG_some h; exact wordCmp x y
 · obtain ⟨x, y, rfl, rfl⟩ := cmpWG_some h; exact refCmp x y
theorem rises_ok {Hf : Hp} {l : List Sl} {w : Value} (hv : SlH l w Hf) (hn : l.length ≤ 2199023255551) :
  CallsV Tryz.prog 117 [.agg #[w, .func (.func 141) #[] #[]]] Hf (Ret0 (.bool (risesB l))) := by
 obtain ⟨p, c, rfl, ⟨rfl, rfl⟩ | ⟨b, o, rfl, rfl⟩⟩ := hv
 · have h0 : risesB [] = true := risesB_true (by intro i x y h; simp at h)
   refine callsO gB_ok Tryz.mix Tryz.pl117 Tryz.func117 rfl Tryz.ntmps117 Tryz.results117 rfl (by first | rfl | assumption) (Nat.le_of_ble_eq_true rfl) (by kernel_rfl) ?_
   simp only [push_cast, seval, reduceCtorEq]
   intro b1
   refine unrollO gB_ok (pl := Tryz.pl117) Tryz.mix 1 (by kernel_rfl) ?_
   simp only [push_cast, seval, reduceCtorEq, h0]
 refine callsO gB_ok Tryz.mix Tryz.pl117 Tryz.func117 rfl Tryz.ntmps117 Tryz.results117 rfl (by first | rfl | assumption) (Nat.le_of_ble_eq_true rfl) (by kernel_rfl) ?_
 simp only [push_cast, seval, reduceCtorEq]
 intro b1 hb1
 refine loopO gB_ok (pl := Tryz.pl117) Tryz.mix (X := Nat)
  (fun k => ([(1, .pointer (some ⟨b1, 0, none⟩)), (2, .bool false), (6, .int .i64 l.length), (7, .int .i64 k)],
   [⟨b1, 0, .cel 140, [.slice (some ⟨b, o, none⟩) l.length c, .func (.func 141) #[] #[]]⟩, ⟨b, o, .ro, slC l⟩]))
  (fun k => k ≤ l.length ∧ ∀ i x y, i + 1 < k → l[i]? = some x → l[i + 1]? = some y → x.key.num < y.key.num) (fun k => l.length - k) 0 ?_ ?_ (by kernel_rfl) ?_
 · exact ⟨Nat.zero_le _, fun i x y h => by omega⟩
 · simp only [push_cast, seval, reduceCtorEq, *]
 · rintro k ⟨hk, ho⟩
   dsimp only at hk ho ⊢
   rcases Nat.lt_or_ge k l.length with hlt | hge
   · obtain ⟨x, hx⟩ : ∃ x, l[k]? = some x := ⟨l[k], List.getElem?_eq_getElem hlt⟩
     have hat := slC_at hx
     rcases Nat.eq_zero_or_pos k with rfl | hpos
     · simp only [push_cast, seval, reduceCtorEq, hlt, hb1, Int.lt_irrefl]
       exact ⟨1, ⟨hlt, fun i x y h => by omega⟩, by omega, rfl⟩
     · obtain ⟨j, rfl⟩ : ∃ j, k = j + 1 := ⟨k - 1, by omega⟩
       obtain ⟨y, hy⟩ : ∃ y, l[j]? = some y := ⟨l[j], List.getElem?_eq_getElem (by omega)⟩
       have hat' := slC_at hy
       have e1 : ((0 : Int) < (j : Int) + 1) = True := by simp
       have e2 : ((j : Int) + 1).toNat = j + 1 := by omega
       have e3 : ((0 : Int) ≤ (j : Int) + 1 ∧ (j : Int) + 1 < (l.length : Int)) := by omega
       have e4 : j < l.length := by omega
       simp only [push_cast, seval, reduceCtorEq, hlt, hat, hat', hb1, e1, e2, e3, e4, wrap_i64' (show -9223372036854775808 ≤ (j : Int) ∧ (j : Int) ≤ 9223372036854775807 by omega), wrap_i64' (show -9223372036854775808 ≤ (j : Int) + 1 + 1 ∧ (j : Int) + 1 + 1 ≤ 9223372036854775807 by omega)]
       simp only [sel_ite, decide_eq_true_eq, bne_iff_ne, ne_eq, beq_iff_eq]
       split
       · rename_i h
         have h0 : risesB l = false := risesB_false fun hr => by
          have := W.cmp_neg.2 (hr j y x hy hx)
          omega
         rw [h0]
       · rename_i h
         have h2 := W.cmp_neg.1 (Int.not_le.1 h)
         refine ⟨j + 2, ⟨hlt, fun i x' y' hi h3 h4 => ?_⟩, by omega, by simp only [Value.int.injEq, true_and]; omega⟩
         rcases Nat.lt_or_ge (i + 1) (j + 1) with h5 | h5
         · exact ho i x' y' h5 h3 h4
         · obtain rfl : i = j := by omega
           rw [hy] at h3; rw [hx] at h4
           cases h3; cases h4
           exact h2
   · obtain rfl : k = l.length := by omega
     have h0 : risesB l = true := risesB_true (fun i x y hi hj => ho i x y (by have := (List.getElem?_eq_some_iff.1 hj).1; omega) hi hj)
     simp only [push_cast, seval, reduceCtorEq, hb1, Nat.lt_irrefl, h0]
theorem patch_ok {Hf : Hp} {l : List Sl} {v : Value} (hv : SlH l v Hf) : CallsV Tryz.prog 90 [v] Hf (Ret0 (.bool (patchB l))) := by
 have hm := hv.marks
 have hv' := hv
 obtain ⟨p, c, rfl, _⟩ := hv'
 refine callsO gB_ok Tryz.mix Tryz.pl90 Tryz.func90 rfl Tryz.ntmps90 Tryz.results90 rfl (by first | rfl | assumption) (Nat.le_of_ble_eq_true rfl) (by kernel_rfl) ?_
 simp only [push_cast, seval, reduceCtorEq]
 rcases Nat.lt_or_ge 1000 l.length with hlt | hge
 · have e1 : ¬ ((l.length : Int) ≤ 1000) := by omega
   simp only [push_cast, seval, reduceCtorEq, e1, patchB, Nat.not_le.2 hlt]
 · have e1 : ((l.length : Int) ≤ 1000) := by omega
   simp only [push_cast, seval, reduceCtorEq, e1]
   refine (of_ok hv (by omega)).use hv.der ?_
   rintro u N ⟨w, rfl, ho⟩
   refine ⟨ho.wr.1, ho.wr.2, fun _ => ?_⟩
   simp only [push_cast, seval, reduceCtorEq]
   obtain ⟨Hw, hw, hd⟩ := (ho.r (H := Hf)).h
   refine (rises_ok hw (by omega)).pure hd ?_
   simp only [push_cast, seval, reduceCtorEq, patchB, hge]
end Go.Proofs.YtpcjmmdgopihcaaGreatDoor
namespace Go.Ev
def idxI (f : Sl → Bool) (l : List Sl) : Int := match l.findIdx? f with | some i => i | none => -1
theorem idxI_some {f : Sl → Bool} {l : List Sl} {i : Nat} {x : Sl} (hx : l[i]? = some x) (h1 : f x = true) (h0 : ∀ (j : Nat) (y : Sl), j < i → l[j]? = some y → f y = false) : idxI f l = i := by
 obtain ⟨hi1, hi2⟩ := (List.getElem?_eq_some_iff.1 hx)
 have : l.findIdx? f = some i := by
  rw [List.findIdx?_eq_some_iff_getElem]
  refine ⟨hi1, by rw [hi2]; exact h1, fun j hj => ?_⟩
  have := h0 j (l[j]'(by omega)) hj (List.getElem?_eq_getElem (by omega))
  simp [this]
 unfold idxI; rw [this]
theorem idxI_none {f : Sl → Bool} {l : List Sl} (h0 : ∀ (j : Nat) (y : Sl), l[j]? = some y → f y = false) : idxI f l = -1 := by
 have : l.findIdx? f = none := by
  rw [List.findIdx?_eq_none_iff]
  intro x hx
  obtain ⟨j, hj⟩ := List.getElem?_of_mem hx
  exact h0 j x hj
 unfold idxI; rw [this]
theorem idxI_any {f : Sl → Bool} {l : List Sl} : decide (0 ≤ idxI f l) = l.any f := by
 rw [Bool.eq_iff_iff, decide_eq_true_eq]
 unfold idxI
 cases h : l.findIdx? f with
 | none => simpa using List.findIdx?_eq_none_iff.1 h
 | some i =>
   obtain ⟨h1, h2, _⟩ := List.findIdx?_eq_some_iff_getElem.1 h
   simp only [Int.natCast_nonneg, true_iff, List.any_eq_true]
   exact ⟨_, List.getElem_mem h1, h2⟩
theorem SlH.find {l : List Sl} {q : Option Addr} {n c : Nat} {Hf : Hp} (h : SlH l (.slice q n c) Hf) : n = l.length ∧ (l = [] ∨ ∃ b o, q = some ⟨b, o, none⟩ ∧ findE Hf b = some ⟨b, o, .ro, slC l⟩) := by
 obtain ⟨p, c', h, ⟨rfl, rfl⟩ | ⟨b, o, rfl, rfl⟩⟩ := h
 · cases h; exact ⟨rfl, .inl rfl⟩
 · cases h; exact ⟨rfl, .inr ⟨b, o, rfl, by simp [findE]⟩⟩
theorem SlH.slice {l : List Sl} {v : Value} {Hf : Hp} (h : SlH l v Hf) : ∃ q c, v = .slice q l.length c := by
 obtain ⟨p, c', rfl, _⟩ := h; exact ⟨p, c', rfl⟩
theorem idxI_find (f : Sl → Bool) (l : List Sl) : (idxI f l = -1 ∧ l.find? f = none) ∨ ∃ (i : Nat) (x : Sl), idxI f l = i ∧ l[i]? = some x ∧ l.find? f = some x := by
 unfold idxI
 cases h : l.findIdx? f with
 | none =>
   refine .inl ⟨rfl, ?_⟩
   have := List.findIdx?_eq_none_iff.1 h
   simpa using this
 | some i =>
   obtain ⟨h1, h2, h3⟩ := List.findIdx?_eq_some_iff_getElem.1 h
   refine .inr ⟨i, l[i], rfl, List.getElem?_eq_getElem h1, ?_⟩
   rw [List.find?_eq_some_iff_getElem]
   exact ⟨h2, i, h1, rfl, fun j hj => by have := h3 j hj; simpa using this⟩
noncomputable def getW (l : List Sl) (k : W) : W := ((l.find? fun x => decide (x.key = k)).map (·.val)).getD W.zero
theorem slC_take (l : List Sl) : List.take (l.length * 8) (slC l) = slC l := by rw [← slC_len, List.take_length]
noncomputable def rightB (l : List Sl) : Bool := patchB l && !(l.any fun x => decide (x.val = W.zero))
theorem CallsV.ret0 {P : Program} {g : FuncId} {args : List Value} {Hf H : Hp} {v : Value} (hc : CallsV P g args Hf (Ret0 v)) (hd : derE H Hf) (hm : marksOf H = []) : CallsV P g args H (Ret0 v) := by
 have h := hc.pure (K' := fun u H' => u = v ∧ H' = H) hd ⟨rfl, rfl⟩
 refine ⟨h.1, fun w0 mu w hs => (h.2 w0 mu w hs).mono ?_⟩
 rintro e w' ⟨u, H', rfl, ⟨rfl, rfl⟩, hs', _⟩
 exact ⟨u, [], rfl, ⟨rfl, rfl⟩, hs'.weak (List.nil_sublist _), by rw [hm]; rfl⟩
theorem W.zero_agg : Value.agg #[.int .u64 0, .int .u64 0, .int .u64 0, .int .u64 0] = W.zero.v := rfl
theorem W.ext_iff' {x y : W} : x = y ↔ x.a = y.a ∧ x.b = y.b ∧ x.c = y.c ∧ x.d = y.d := ⟨fun h => by subst h; exact ⟨rfl, rfl, rfl, rfl⟩, fun h => W.eq h.1 h.2.1 h.2.2.1 h.2.2.2⟩
theorem W.eqC (x y : W) : eqC [.i, .i, .i, .i] x.cells y.cells = some (decide (x = y)) := by
 simp only [W.cells, Go.Ev.eqC, if_true, Option.map_some, Option.some.injEq, Bool.and_true]
 rw [Bool.eq_iff_iff]
 simp only [Bool.and_eq_true, beq_iff_eq, decide_eq_true_eq, W.ext_iff', Int.ofNat_inj]
theorem W.eqV {P : Program} {t : TypeId} (x y : W) (h1 : tyI P t = some (4, true)) (h2 : P.eqGuardType P.depth t = false) (h3 : flatK P 12 t = some [.i, .i, .i, .i]) : eqV P t x.v y.v = some (decide (x = y)) := by
 unfold W.v Go.Ev.eqV
 simp only [h1, h2, h3, Option.bind_some, Bool.false_eq_true, if_false, List.toList_toArray, W.eqC]
theorem W.eql {P : Program} {t : TypeId} (x y : W) (h1 : tyI P t = some (4, true)) (h2 : P.eqGuardType P.depth t = false) (h3 : flatK P 12 t = some [.i, .i, .i, .i]) : binQ P .eql t x.v y.v = some (.bool (decide (x = y))) := by
 have := W.eqV x y h1 h2 h3
 unfold W.v at this ⊢
 simp only [binQ, this, Option.map_some]
theorem W.neq {P : Program} {t : TypeId} (x y : W) (h1 : tyI P t = some (4, true)) (h2 : P.eqGuardType P.depth t = false) (h3 : flatK P 12 t = some [.i, .i, .i, .i]) : binQ P .neq t x.v y.v = some (.bool (!decide (x = y))) := by
 have := W.eqV x y h1 h2 h3
 unfold W.v at this ⊢
 simp only [binQ, this, Option.map_some]
theorem Sl.eqC (x y : Sl) : Go.Ev.eqC [.i, .i, .i, .i, .i, .i, .i, .i] x.cells y.cells = some (decide (x = y)) := by
 simp only [Sl.cells, W.cells, List.cons_append, List.nil_append, Go.Ev.eqC, if_true, Option.map_some, Option.some.injEq, Bool.and_true]
 rw [Bool.eq_iff_iff]
 obtain ⟨xk, xv⟩ := x; obtain ⟨yk, yv⟩ := y
 simp only [Bool.and_eq_true, beq_iff_eq, decide_eq_true_eq, Sl.mk.injEq, W.ext_iff', Int.ofNat_inj]
 constructor
 · rintro ⟨a, b, c, d, e, f, g, h⟩; exact ⟨⟨a, b, c, d⟩, e, f, g, h⟩
 · rintro ⟨⟨a, b, c, d⟩, e, f, g, h⟩; exact ⟨a, b, c, d, e, f, g, h⟩
theorem Sl.eqV {P : Program} {t : TypeId} (x y : Sl) (h1 : tyI P t = some (8, true)) (h2 : P.eqGuardType P.depth t = false) (h3 : flatK P 12 t = some [.i, .i, .i, .i, .i, .i, .i, .i]) : Go.Ev.eqV P t x.v y.v = some (decide (x = y)) := by
 unfold Sl.v Go.Ev.eqV
 simp only [h1, h2, h3, Option.bind_some, Bool.false_eq_true, if_false, List.toList_toArray, Sl.eqC]
theorem Sl.neq {P : Program} {t : TypeId} (x y : Sl) (h1 : tyI P t = some (8, true)) (h2 : P.eqGuardType P.depth t = false) (h3 : flatK P 12 t = some [.i, .i, .i, .i, .i, .i, .i, .i]) : binQ P .neq t x.v y.v = some (.bool (!decide (x = y))) := by
 have := Sl.eqV x y h1 h2 h3
 unfold Sl.v at this ⊢
 simp only [binQ, this, Option.map_some]
attribute [push_cast high] W.zero_agg W.eql W.neq Sl.neq
end Go.Ev
namespace Go.Proofs.YtpcjmmdgopihcaaGreatDoor
open Go Go.Ev Go.Proofs
theorem indexFunc_ok {H : Hp} {l : List Sl} {q : Option Addr} {c : Nat} {g : FuncId} {caps : List Value} {f : Sl → Bool} (hm : marksOf H = []) (hd : derE H H) (hn : l.length ≤ 2199023255551)
  (hv : l = [] ∨ ∃ b o, q = some ⟨b, o, none⟩ ∧ findE H b = some ⟨b, o, .ro, slC l⟩) (hf : ∀ x ∈ l, CallsV Tryz.prog g (x.v :: caps) H (Ret0 (.bool (f x)))) :
  CallsV Tryz.prog 96 [.slice q l.length c, .func (.func g) #[] caps.toArray] H (Ret0 (.int .i64 (idxI f l))) := by
 refine callsO (noG_ok _) Tryz.mix Tryz.pl96 Tryz.func96 rfl Tryz.ntmps96 Tryz.results96 rfl (by first | rfl | assumption) (Nat.le_of_ble_eq_true rfl) (by kernel_rfl) ?_
 simp only [push_cast, seval, reduceCtorEq]
 refine loopO (noG_ok _) (pl := Tryz.pl96) Tryz.mix (X := Nat)
  (fun k => ([(0, .slice q l.length c), (1, .func (.func g) #[] caps.toArray), (7, .int .i64 l.length), (8, .int .i64 k)], H))
  (fun k => k ≤ l.length ∧ ∀ j y, j < k → l[j]? = some y → f y = false) (fun k => l.length - k) 0 ?_ ?_ (by kernel_rfl) ?_
 · exact ⟨Nat.zero_le _, fun i x h => by omega⟩
 · simp only [push_cast, seval, reduceCtorEq, hm]
 · rintro k ⟨hk, ho⟩
   dsimp only at hk ho ⊢
   rcases Nat.lt_or_ge k l.length with hlt | hge
   · obtain ⟨x, hx⟩ : ∃ x, l[k]? = some x := ⟨l[k], List.getElem?_eq_getElem hlt⟩
     have hat := slC_at hx
     rcases hv with rfl | ⟨b, o, rfl, hb⟩
     · simp at hlt
     have hfx := hf x (List.mem_of_getElem? hx)
     simp only [push_cast, seval, reduceCtorEq, hlt, hat, hb]
     refine hfx.pure hd ?_
     simp only [push_cast, seval, reduceCtorEq, wrap_i64' (show -9223372036854775808 ≤ (k : Int) + 1 ∧ (k : Int) + 1 ≤ 9223372036854775807 by omega)]
     simp only [sel_ite, decide_eq_true_eq, bne_iff_ne, ne_eq, beq_iff_eq]
     split
     · rename_i h
       rw [idxI_some hx h ho]
     · rename_i h
       refine ⟨k + 1, ⟨hlt, fun j y hj hy => ?_⟩, by omega, rfl⟩
       rcases Nat.lt_or_ge j k with h5 | h5
       · exact ho j y h5 hy
       · obtain rfl : j = k := by omega
         rw [hx] at hy; cases hy
         simpa using h
   · obtain rfl : k = l.length := by omega
     simp only [push_cast, seval, reduceCtorEq, Nat.lt_irrefl, idxI_none (fun j y hj => ho j y (List.getElem?_eq_some_iff.1 hj).1 hj)]
theorem right1_ok (x : Sl) : CallsV Tryz.prog 92 [x.v] [] (Ret0 (.bool (decide (x.val = W.zero)))) := by
 refine callsO (noG_ok _) Tryz.mix Tryz.pl92 Tryz.func92 rfl Tryz.ntmps92 Tryz.results92 rfl (by first | rfl | assumption) (Nat.le_of_ble_eq_true rfl) (by kernel_rfl) ?_
 simp only [push_cast, seval, reduceCtorEq]
theorem containsFunc_ok {H : Hp} {l : List Sl} {q : Option Addr} {c : Nat} {g : FuncId} {caps : List Value} {f : Sl → Bool} (hm : marksOf H = []) (hd : derE H H) (hn : l.length ≤ 2199023255551)
  (hv : l = [] ∨ ∃ b o, q = some ⟨b, o, none⟩ ∧ findE H b = some ⟨b, o, .ro, slC l⟩) (hf : ∀ x ∈ l, CallsV Tryz.prog g (x.v :: caps) H (Ret0 (.bool (f x)))) :
  CallsV Tryz.prog 91 [.slice q l.length c, .func (.func g) #[] caps.toArray] H (Ret0 (.bool (l.any f))) := by
 refine callsO (noG_ok _) Tryz.mix Tryz.pl91 Tryz.func91 rfl Tryz.ntmps91 Tryz.results91 rfl (by first | rfl | assumption) (Nat.le_of_ble_eq_true rfl) (by kernel_rfl) ?_
 simp only [push_cast, seval, reduceCtorEq]
 refine (indexFunc_ok hm hd hn hv hf).pure hd ?_
 simp only [push_cast, seval, reduceCtorEq, idxI_any]
theorem right_ok {Hf : Hp} {l : List Sl} {v : Value} (hv : SlH l v Hf) : CallsV Tryz.prog 62 [v] Hf (Ret0 (.bool (rightB l))) := by
 have hm := hv.marks
 obtain ⟨q, c, rfl⟩ := hv.slice
 refine callsO (noG_ok _) Tryz.mix Tryz.pl62 Tryz.func62 rfl Tryz.ntmps62 Tryz.results62 rfl (by first | rfl | assumption) (Nat.le_of_ble_eq_true rfl) (by kernel_rfl) ?_
 simp only [push_cast, seval, reduceCtorEq]
 refine (patch_ok hv).pure hv.der ?_
 simp only [push_cast, seval, reduceCtorEq]
 cases hp : patchB l with
 | false => simp only [push_cast, seval, reduceCtorEq, rightB, hp]
 | true =>
   simp only [push_cast, seval, reduceCtorEq]
   have hl : l.length ≤ 1000 := by unfold patchB at hp; simp at hp; exact hp.1
   refine (containsFunc_ok (f := fun x => decide (x.val = W.zero)) hm hv.der (by omega) hv.find.2 fun x _ => (right1_ok x).ret0 trivial hm).pure hv.der ?_
   simp only [push_cast, seval, reduceCtorEq, rightB, hp]
theorem limited_ok (p : Option Addr) (n c : Nat) : CallsV Tryz.prog 120 [.slice p n c] [] (Ret0 (.tuple (if 1000 < n then #[.slice none 0 0, .int .i64 2] else #[.slice p n c, .int .i64 0]))) := by
 refine callsO (noG_ok _) Tryz.mix Tryz.pl120 Tryz.func120 rfl Tryz.ntmps120 Tryz.results120 rfl (by first | rfl | assumption) (Nat.le_of_ble_eq_true rfl) (by kernel_rfl) ?_
 simp only [push_cast, seval, reduceCtorEq]
 rcases Nat.lt_or_ge 1000 n with h | h
 · have e1 : (1000 : Int) < (n : Int) := by omega
   simp only [push_cast, seval, reduceCtorEq, e1, h, if_pos]
 · have e1 : ¬ (1000 : Int) < (n : Int) := by omega
   simp only [push_cast, seval, reduceCtorEq, e1, Nat.not_lt.2 h]
theorem get1_ok (x : Sl) (k : W) (b : Nat) : CallsV Tryz.prog 97 [x.v, .pointer (some ⟨b, 0, none⟩)] [⟨b, 0, .ro, k.cells⟩] (Ret0 (.bool (decide (x.key = k)))) := by
 refine callsO (noG_ok _) Tryz.mix Tryz.pl97 Tryz.func97 rfl Tryz.ntmps97 Tryz.results97 rfl (by first | rfl | assumption) (Nat.le_of_ble_eq_true rfl) (by kernel_rfl) ?_
 simp only [push_cast, seval, reduceCtorEq]
 intro b1 hb1
 simp only [push_cast, seval, reduceCtorEq, hb1]
theorem get_ok {Hf : Hp} {l : List Sl} {v : Value} {k : W} (hv : SlH l v Hf) (hn : l.length ≤ 2199023255551) : CallsV Tryz.prog 68 [v, k.v] Hf (Ret0 (getW l k).v) := by
 obtain ⟨q, c, rfl, ⟨rfl, rfl⟩ | ⟨b, o, rfl, rfl⟩⟩ := hv
 · refine callsO (noG_ok _) Tryz.mix Tryz.pl68 Tryz.func68 rfl Tryz.ntmps68 Tryz.results68 rfl (by first | rfl | assumption) (Nat.le_of_ble_eq_true rfl) (by kernel_rfl) ?_
   simp only [push_cast, seval, reduceCtorEq]
   intro b1 b2 hb2
   refine (indexFunc_ok (H := [⟨b1, 0, .ro, k.cells⟩]) (l := []) (q := q) (c := c) (caps := [.pointer (some ⟨b1, 0, none⟩)]) (f := fun x => decide (x.key = k)) rfl ?_ hn (.inl rfl) (fun x h => by cases h)).pure ?_ ?_
   · exact ⟨⟨rfl, by simp only [push_cast, seval, reduceCtorEq]⟩, trivial⟩
   · simp only [push_cast, seval, reduceCtorEq, hb2]
   have h0 : idxI (fun x => decide (x.key = k)) [] = -1 := rfl
   have h1 : getW [] k = W.zero := rfl
   simp only [push_cast, seval, reduceCtorEq, h0, h1, hb2]
 · refine callsO (noG_ok _) Tryz.mix Tryz.pl68 Tryz.func68 rfl Tryz.ntmps68 Tryz.results68 rfl (by first | rfl | assumption) (Nat.le_of_ble_eq_true rfl) (by kernel_rfl) ?_
   simp only [push_cast, seval, reduceCtorEq]
   intro b1 hb1 b2 hb2
   refine (indexFunc_ok (H := [⟨b1, 0, .ro, k.cells⟩, ⟨b, o, .ro, slC l⟩]) (l := l) (q := some ⟨b, o, none⟩) (c := c) (caps := [.pointer (some ⟨b1, 0, none⟩)]) (f := fun x => decide (x.key = k)) rfl ?_ hn (.inr ⟨b, o, rfl, ?_⟩) (fun x h => ?_)).pure ?_ ?_
   · simp only [push_cast, seval, reduceCtorEq, hb1, slC_len, slC_take]
   · simp only [push_cast, seval, reduceCtorEq, hb1]
   · exact (get1_ok x k b1).ret0 (by simp only [push_cast, seval, reduceCtorEq]) rfl
   · simp only [push_cast, seval, reduceCtorEq, hb2, hb1, slC_len, slC_take]
   rcases idxI_find (fun x => decide (x.key = k)) l with ⟨h0, h1⟩ | ⟨i, x, h0, h1, h2⟩
   · have h3 : getW l k = W.zero := by unfold getW; rw [h1]; rfl
     simp only [push_cast, seval, reduceCtorEq, h0, h3, hb2]
   · have h3 : getW l k = x.val := by unfold getW; rw [h2]; rfl
     have hi := (List.getElem?_eq_some_iff.1 h1).1
     have hat := slC_at h1
     have e1 : ¬ (i : Int) < 0 := by omega
     simp only [push_cast, seval, reduceCtorEq, h0, h3, hb2, hb1, e1, hi, hat]
end Go.Proofs.YtpcjmmdgopihcaaGreatDoor
namespace Go.Ev
structure Bo where
 key : W
 a : W
 b : W
 inB : Bool
def Bo.cells (x : Bo) : List Value := x.key.cells ++ (x.a.cells ++ (x.b.cells ++ [.bool x.inB]))
def Bo.v (x : Bo) : Value := .agg x.cells.toArray
def joinS : List Sl → List Sl → List Bo
 | [], [] => []
 | x :: r, [] => ⟨x.key, x.val, W.zero, false⟩ :: joinS r []
 | [], y :: s => ⟨y.key, W.zero, y.val, true⟩ :: joinS [] s
 | x :: r, y :: s => if x.key.num < y.key.num then ⟨x.key, x.val, W.zero, false⟩ :: joinS r (y :: s)
   else if y.key.num < x.key.num then ⟨y.key, W.zero, y.val, true⟩ :: joinS (x :: r) s
   else ⟨y.key, x.val, y.val, true⟩ :: joinS r s
termination_by a b => a.length + b.length
theorem findE_appT {b : Nat} {e : Ent} {B : Hp} : ∀ {A : Hp}, findE A b = some e → findE (A ++ B) b = some e
 | [], h => by simp [findE] at h
 | x :: r, h => by
   simp only [findE, List.cons_append] at h ⊢
   split
   · rename_i hx; rw [if_pos hx] at h; exact h
   · rename_i hx; rw [if_neg hx] at h; exact findE_appT h
def SufS (H : Hp) (l : List Sl) (b : Nat) (i : Nat) (v : Value) : Prop :=
 (i = l.length ∧ ∃ p c, v = .slice p 0 c) ∨ (i < l.length ∧ ∃ c, l.length ≤ c ∧ v = .slice (some ⟨b, i * 8, none⟩) (l.length - i) (c - i) ∧ ∃ k, findE H b = some ⟨b, 0, k, slC l⟩)
theorem subH_app (M : Hp) : ∀ (L : Hp), subH (L ++ M) L
 | [] => by cases M <;> exact trivial
 | e :: r => ⟨by simp [findE], by simpa [remE] using subH_app M r⟩
theorem subH_app2 (A B M : Hp) : subH (A ++ (B ++ M)) (A ++ B) := by rw [← List.append_assoc]; exact subH_app M _
theorem YieldV.frame2 {P : Program} {l : Nat} {args : List Value} {A H : Hp} {e : Ent} {K K' : Value → Hp → Prop} (hy : YieldV P l args H K) (hro : ∀ v H', K v H' → ∀ e ∈ H', e.wr ∨ e ∈ H) (hm : marksOf [e] = [])
  (hk : ∀ v H', K v H' → K' v (A ++ (H' ++ [e]))) : YieldV P l args (e :: (A ++ H)) K' := by
 have h := hy.frame (A := e :: A) (K' := fun v H'' => ∃ H', K v H' ∧ H'' = (e :: A) ++ H') hro (fun v H' h => ⟨H', h, rfl⟩)
 intro w0 mu w hs
 obtain ⟨fn, tmps, assign, body, h1, h2⟩ := h w0 mu w hs
 refine ⟨fn, tmps, assign, body, h1, h2.mono ?_⟩
 rintro e' w' ⟨v, _, rfl, ⟨H', hK, rfl⟩, hs', hm'⟩
 have hp : ((e :: A) ++ H').Perm (A ++ (H' ++ [e])) := by rw [← List.append_assoc]; exact (List.perm_append_singleton e (A ++ H')).symm
 refine ⟨v, _, rfl, hk v H' hK, hs'.perm hp, ?_⟩
 have e1 : ∀ L : Hp, marksOf (e :: (A ++ L)) = marksOf (A ++ L) := fun L => by
  rw [show e :: (A ++ L) = [e] ++ (A ++ L) from rfl, marks_append, hm]; rfl
 rw [← List.append_assoc, marks_append, hm, List.append_nil]
 have h3 : marksOf (e :: (A ++ H')) = marksOf (e :: (A ++ H)) := hm'
 rw [e1, e1] at h3
 rw [e1]
 exact h3
theorem SufS.next {H : Hp} {l : List Sl} {b j m c : Nat} {k : Kind} (hj : l.length - j = m + 1) (hc : l.length ≤ c) (hf : findE H b = some ⟨b, 0, k, slC l⟩) :
  SufS H l b (j + 1) (.slice (if c - j = 1 then some ⟨b, j * 8, none⟩ else some ⟨b, j * 8 + 8, none⟩) (m + 1 - 1) (c - j - 1)) := by
 cases m with
 | zero => exact .inl ⟨by omega, _, _, rfl⟩
 | succ m =>
   refine .inr ⟨by omega, c, hc, ?_, k, hf⟩
   rw [if_neg (by omega), show l.length - (j + 1) = m + 1 + 1 - 1 by omega, show c - (j + 1) = c - j - 1 by omega, show (j + 1) * 8 = j * 8 + 8 by omega]
end Go.Ev
namespace Go.Proofs.YtpcjmmdgopihcaaGreatDoor
open Go Go.Ev Go.Proofs
theorem with1_ok {Hc : Hp} {a b : List Sl} {va vb : Value} {b2 b3 ba bb : Nat} (hn : a.length + b.length ≤ 2199023255551) (hmc : marksOf Hc = [])
  (h2 : findE Hc b2 = some ⟨b2, 0, .cel 140, [va, .func (.func 141) #[] #[]]⟩) (h3 : findE Hc b3 = some ⟨b3, 0, .cel 140, [vb, .func (.func 141) #[] #[]]⟩)
  (ha : SufS Hc a ba 0 va) (hb : SufS Hc b bb 0 vb) :
  IterV Tryz.prog 142 [.pointer (some ⟨b2, 0, none⟩), .pointer (some ⟨b3, 0, none⟩)] Hc ((joinS a b).map fun x => [x.v]) := by
 refine ⟨enterO Tryz.func142 rfl rfl, fun X Ho I St l x0 hro hmk h0 hy => ?_⟩
 have hmarks : ∀ x, marksOf (Hc ++ Ho x) = [] := fun x => by rw [marks_append, hmc, hmk]; rfl
 have hm0 := hmarks x0
 refine callsO gB_ok Tryz.mix Tryz.pl142 Tryz.func142 rfl Tryz.ntmps142 Tryz.results142 rfl (by first | rfl | assumption) (Nat.le_of_ble_eq_true rfl) (by kernel_rfl) ?_
 have h2' := fun x => findE_appT (B := Ho x) h2
 have h3' := fun x => findE_appT (B := Ho x) h3
 simp only [push_cast, seval, reduceCtorEq, h2', h3']
 refine loopO gB_ok (pl := Tryz.pl142) Tryz.mix (X := Nat × Nat × Nat × Value × Value × X)
  (fun s => ([(0, .func (.yield l) #[] #[]), (1, .pointer (some ⟨b2, 0, none⟩)), (2, .pointer (some ⟨b3, 0, none⟩)), (4, s.2.2.2.1), (5, s.2.2.2.2.1)], Hc ++ Ho s.2.2.2.2.2))
  (fun s => s.1 ≤ (joinS a b).length ∧ (joinS a b).drop s.1 = joinS (a.drop s.2.1) (b.drop s.2.2.1) ∧ I s.1 s.2.2.2.2.2 ∧ SufS Hc a ba s.2.1 s.2.2.2.1 ∧ SufS Hc b bb s.2.2.1 s.2.2.2.2.1) (fun s => (a.length - s.2.1) + (b.length - s.2.2.1)) (0, 0, 0, va, vb, x0) ?_ ?_ (by kernel_rfl) ?_
 · exact ⟨Nat.zero_le _, rfl, h0, ha, hb⟩
 · simp only [push_cast, seval, reduceCtorEq, hm0]
 · rintro ⟨k, i, j, ua, ub, x⟩ ⟨hkl, hd, hi, hua, hub⟩
   dsimp only at hkl hd hi hua hub ⊢
   have nxt : ∀ (y : Bo) (rest : List Bo), joinS (a.drop i) (b.drop j) = y :: rest → (joinS a b)[k]? = some y ∧ (joinS a b).drop (k + 1) = rest ∧ k + 1 ≤ (joinS a b).length := fun y rest h => by
    rw [← hd] at h
    have hlt : k < (joinS a b).length := by
     rcases Nat.lt_or_ge k (joinS a b).length with h1 | h1
     · exact h1
     · rw [List.drop_eq_nil_of_le h1] at h; cases h
    rw [List.drop_eq_getElem_cons hlt] at h
    cases h
    exact ⟨List.getElem?_eq_getElem hlt, rfl, hlt⟩
   have yl : ∀ (y : Bo) (rest : List Bo) (e : Ent) (K' : Value → Hp → Prop), joinS (a.drop i) (b.drop j) = y :: rest → marksOf [e] = [] → (∀ x', I (k + 1) x' → K' (.bool true) (Hc ++ (Ho x' ++ [e]))) → (∀ x', St x' → K' (.bool false) (Hc ++ (Ho x' ++ [e]))) → YieldV Tryz.prog l [y.v] (e :: (Hc ++ Ho x)) K' := fun y rest e K' hj hm ht hf => by
    refine (hy k x [y.v] (by rw [List.getElem?_map, (nxt y rest hj).1]; rfl) hi).frame2 ?_ hm ?_
    · rintro v H' (⟨rfl, x', _, rfl⟩ | ⟨rfl, x', _, rfl⟩) <;> exact hro x x'
    · rintro v H' (⟨rfl, x', h, rfl⟩ | ⟨rfl, x', h, rfl⟩)
      · exact ht x' h
      · exact hf x' h
   have yf : ∀ (x' : X) (e : Ent), marksOf [e] = [] → St x' → ∃ H'_1, List.Sublist H'_1 (dropM (Hc ++ (Ho x' ++ [e]))) ∧ ∃ x, (I (List.map (fun x => [x.v]) (joinS a b)).length x ∨ St x) ∧ H'_1 = Ho x := fun x' e hm hst => by
    refine ⟨Ho x', ?_, x', .inr hst, rfl⟩
    rw [← List.append_assoc, dropM_eq (by rw [marks_append, hmarks, hm]; rfl)]
    exact (List.sublist_append_right _ _).trans (List.sublist_append_left _ _)
   have mks : ∀ (x' : X) (e : Ent), marksOf [e] = [] → marksOf (Hc ++ Ho x') = marksOf (Hc ++ (Ho x' ++ [e])) := fun x' e h => by
    rw [← List.append_assoc, marks_append (Hc ++ Ho x') [e], h, List.append_nil]
   rcases hua with ⟨rfl, pa, ca, rfl⟩ | ⟨hia, ca, hca, rfl, ka, hea⟩
   · rcases hub with ⟨rfl, pb, cb, rfl⟩ | ⟨hib, cb, hcb, rfl, kb, heb⟩
     · have hend : k = (joinS a b).length := by
        have := congrArg List.length hd
        simp [joinS] at this
        omega
       subst hend
       simp only [push_cast, seval, reduceCtorEq, Int.lt_irrefl]
       refine ⟨Ho x, ?_, x, .inl ?_, rfl⟩
       · rw [dropM_eq (hmarks x)]; exact List.sublist_append_right _ _
       · simpa using hi
     · obtain ⟨yb, hyb⟩ : ∃ y, b[j]? = some y := ⟨b[j], List.getElem?_eq_getElem hib⟩
       have hatb := slC_at hyb
       have hgb : findE (Hc ++ Ho x) bb = some ⟨bb, 0, kb, slC b⟩ := findE_appT heb
       obtain ⟨m, hmb⟩ : ∃ m, b.length - j = m + 1 := ⟨b.length - j - 1, by omega⟩
       rw [hmb]
       have e1 : (0 : Int) < (m : Int) + 1 := by omega
       have e2 : m + 1 ≤ cb - j := by omega
       have e3 : (1 : Int) ≤ (m : Int) + 1 := by omega
       simp only [push_cast, seval, reduceCtorEq, e1, wrap_i64' (show -9223372036854775808 ≤ (m : Int) + 1 ∧ (m : Int) + 1 ≤ 9223372036854775807 by omega), Int.zero_add, beq_self_eq_true, Nat.zero_lt_succ]
       intro b7 hb7
       have hf7 := fresh_find hb7 hgb
       simp only [push_cast, seval, reduceCtorEq, hf7, hgb, hatb, e2, e3, Nat.zero_le]
       have hj : joinS (a.drop a.length) (b.drop j) = ⟨yb.key, W.zero, yb.val, true⟩ :: joinS (a.drop a.length) (b.drop (j + 1)) := by
        rw [List.drop_length, List.drop_eq_getElem_cons hib, (List.getElem?_eq_some_iff.1 hyb).2, joinS]
       try simp only [and_self]
       refine yl ⟨yb.key, W.zero, yb.val, true⟩ _ _ _ hj rfl (fun x' hx' => ?_) (fun x' hx' => ?_)
       · simp only [push_cast, seval, reduceCtorEq]
         refine ⟨(k + 1, a.length, j + 1, _, _, x'), ⟨(nxt _ _ hj).2.2, (nxt _ _ hj).2.1, hx', .inl ⟨rfl, pa, ca, rfl⟩, SufS.next hmb hcb heb⟩, ?_, ⟨rfl, rfl⟩, subH_app2 _ _ _, mks x' _ rfl⟩
         dsimp only; omega
       · simp only [push_cast, seval, reduceCtorEq]
         exact yf x' _ rfl hx'
   · obtain ⟨ya, hya⟩ : ∃ y, a[i]? = some y := ⟨a[i], List.getElem?_eq_getElem hia⟩
     have hata := slC_at hya
     have hga : findE (Hc ++ Ho x) ba = some ⟨ba, 0, ka, slC a⟩ := findE_appT hea
     obtain ⟨m, hma⟩ : ∃ m, a.length - i = m + 1 := ⟨a.length - i - 1, by omega⟩
     rw [hma]
     have e2 : m + 1 ≤ ca - i := by omega
     have e3 : (1 : Int) ≤ (m : Int) + 1 := by omega
     have e5 : ((m : Int) + 1 == 0) = false := by rw [beq_eq_false_iff_ne]; omega
     rcases hub with ⟨rfl, pb, cb, rfl⟩ | ⟨hib, cb, hcb, rfl, kb, heb⟩
     · have e1 : (0 : Int) < (m : Int) + 1 := by omega
       simp only [push_cast, seval, reduceCtorEq, e1, e5, wrap_i64' (show -9223372036854775808 ≤ (m : Int) + 1 ∧ (m : Int) + 1 ≤ 9223372036854775807 by omega), Int.add_zero, beq_self_eq_true, Nat.zero_lt_succ]
       intro b7 hb7
       have hf7 := fresh_find hb7 hga
       simp only [push_cast, seval, reduceCtorEq, hf7, hga, hata, e2, e3, Nat.zero_le]
       have hj : joinS (a.drop i) (b.drop b.length) = ⟨ya.key, ya.val, W.zero, false⟩ :: joinS (a.drop (i + 1)) (b.drop b.length) := by
        rw [List.drop_length, List.drop_eq_getElem_cons hia, (List.getElem?_eq_some_iff.1 hya).2, joinS]
       try simp only [and_self]
       refine yl ⟨ya.key, ya.val, W.zero, false⟩ _ _ _ hj rfl (fun x' hx' => ?_) (fun x' hx' => ?_)
       · simp only [push_cast, seval, reduceCtorEq]
         refine ⟨(k + 1, i + 1, b.length, _, _, x'), ⟨(nxt _ _ hj).2.2, (nxt _ _ hj).2.1, hx', SufS.next hma hca hea, .inl ⟨rfl, pb, cb, rfl⟩⟩, ?_, ⟨rfl, rfl⟩, subH_app2 _ _ _, mks x' _ rfl⟩
         dsimp only; omega
       · simp only [push_cast, seval, reduceCtorEq]
         exact yf x' _ rfl hx'
     · obtain ⟨yb, hyb⟩ : ∃ y, b[j]? = some y := ⟨b[j], List.getElem?_eq_getElem hib⟩
       have hatb := slC_at hyb
       have hgb : findE (Hc ++ Ho x) bb = some ⟨bb, 0, kb, slC b⟩ := findE_appT heb
       obtain ⟨q, hmb⟩ : ∃ m, b.length - j = m + 1 := ⟨b.length - j - 1, by omega⟩
       rw [hmb]
       have e1 : (0 : Int) < (m : Int) + 1 + ((q : Int) + 1) := by omega
       have e6 : (0 : Int) < (m : Int) + 1 := by omega
       have d6 : (0 : Int) < (q : Int) + 1 := by omega
       have d2 : q + 1 ≤ cb - j := by omega
       have d3 : (1 : Int) ≤ (q : Int) + 1 := by omega
       have d5 : ((q : Int) + 1 == 0) = false := by rw [beq_eq_false_iff_ne]; omega
       have hda : a.drop i = ya :: a.drop (i + 1) := by rw [List.drop_eq_getElem_cons hia, (List.getElem?_eq_some_iff.1 hya).2]
       have hdb : b.drop j = yb :: b.drop (j + 1) := by rw [List.drop_eq_getElem_cons hib, (List.getElem?_eq_some_iff.1 hyb).2]
       rcases Nat.lt_trichotomy ya.key.num yb.key.num with hlt | heq | hgt
       · have hc : ya.key.cmp yb.key = -1 := (W.cmp_lt hlt).symm
         simp only [push_cast, seval, reduceCtorEq, h2', h3', hga, hgb, hata, hatb, hc, e1, e5, d5, e6, d6, wrap_i64' (show -9223372036854775808 ≤ (m : Int) + 1 + ((q : Int) + 1) ∧ (m : Int) + 1 + ((q : Int) + 1) ≤ 9223372036854775807 by omega), Nat.zero_lt_succ, Nat.zero_le]
         intro b7 hb7
         have hf7 := fresh_find hb7 hga
         simp only [push_cast, seval, reduceCtorEq, hf7, hga, hata, e2, e3, Nat.zero_le]
         have hj : joinS (a.drop i) (b.drop j) = ⟨ya.key, ya.val, W.zero, false⟩ :: joinS (a.drop (i + 1)) (b.drop j) := by
          rw [hda, hdb, joinS, if_pos hlt]
         try simp only [and_self]
         refine yl ⟨ya.key, ya.val, W.zero, false⟩ _ _ _ hj rfl (fun x' hx' => ?_) (fun x' hx' => ?_)
         · simp only [push_cast, seval, reduceCtorEq]
           refine ⟨(k + 1, i + 1, j, _, _, x'), ⟨(nxt _ _ hj).2.2, (nxt _ _ hj).2.1, hx', SufS.next hma hca hea, .inr ⟨hib, cb, hcb, by rw [hmb], kb, heb⟩⟩, ?_, ⟨rfl, rfl⟩, subH_app2 _ _ _, mks x' _ rfl⟩
           dsimp only; omega
         · simp only [push_cast, seval, reduceCtorEq]
           exact yf x' _ rfl hx'
       · have hc : ya.key.cmp yb.key = 0 := (W.cmp_eq heq).symm
         simp only [push_cast, seval, reduceCtorEq, h2', h3', hga, hgb, hata, hatb, hc, e1, e5, d5, e6, d6, wrap_i64' (show -9223372036854775808 ≤ (m : Int) + 1 + ((q : Int) + 1) ∧ (m : Int) + 1 + ((q : Int) + 1) ≤ 9223372036854775807 by omega), Nat.zero_lt_succ, Nat.zero_le]
         intro b7 hb7
         have hf7 := fresh_find hb7 hga
         have hg7 := fresh_find hb7 hgb
         simp only [push_cast, seval, reduceCtorEq, hf7, hg7, hga, hata, hgb, hatb, e2, e3, d2, d3, Nat.zero_le]
         have hj : joinS (a.drop i) (b.drop j) = ⟨yb.key, ya.val, yb.val, true⟩ :: joinS (a.drop (i + 1)) (b.drop (j + 1)) := by
          rw [hda, hdb, joinS, if_neg (by omega), if_neg (by omega)]
         try simp only [and_self]
         refine yl ⟨yb.key, ya.val, yb.val, true⟩ _ _ _ hj rfl (fun x' hx' => ?_) (fun x' hx' => ?_)
         · simp only [push_cast, seval, reduceCtorEq]
           refine ⟨(k + 1, i + 1, j + 1, _, _, x'), ⟨(nxt _ _ hj).2.2, (nxt _ _ hj).2.1, hx', SufS.next hma hca hea, SufS.next hmb hcb heb⟩, ?_, ⟨rfl, rfl⟩, subH_app2 _ _ _, mks x' _ rfl⟩
           dsimp only; omega
         · simp only [push_cast, seval, reduceCtorEq]
           exact yf x' _ rfl hx'
       · have hc : ya.key.cmp yb.key = 1 := (W.cmp_gt hgt).symm
         simp only [push_cast, seval, reduceCtorEq, h2', h3', hga, hgb, hata, hatb, hc, e1, e5, d5, e6, d6, wrap_i64' (show -9223372036854775808 ≤ (m : Int) + 1 + ((q : Int) + 1) ∧ (m : Int) + 1 + ((q : Int) + 1) ≤ 9223372036854775807 by omega), Nat.zero_lt_succ, Nat.zero_le]
         intro b7 hb7
         have hg7 := fresh_find hb7 hgb
         simp only [push_cast, seval, reduceCtorEq, hg7, hgb, hatb, d2, d3, Nat.zero_le]
         have hj : joinS (a.drop i) (b.drop j) = ⟨yb.key, W.zero, yb.val, true⟩ :: joinS (a.drop i) (b.drop (j + 1)) := by
          rw [hda, hdb, joinS, if_neg (by omega), if_pos hgt]
         try simp only [and_self]
         refine yl ⟨yb.key, W.zero, yb.val, true⟩ _ _ _ hj rfl (fun x' hx' => ?_) (fun x' hx' => ?_)
         · simp only [push_cast, seval, reduceCtorEq]
           refine ⟨(k + 1, i, j + 1, _, _, x'), ⟨(nxt _ _ hj).2.2, (nxt _ _ hj).2.1, hx', .inr ⟨hia, ca, hca, by rw [hma], ka, hea⟩, SufS.next hmb hcb heb⟩, ?_, ⟨rfl, rfl⟩, subH_app2 _ _ _, mks x' _ rfl⟩
           dsimp only; omega
         · simp only [push_cast, seval, reduceCtorEq]
           exact yf x' _ rfl hx'
end Go.Proofs.YtpcjmmdgopihcaaGreatDoor
