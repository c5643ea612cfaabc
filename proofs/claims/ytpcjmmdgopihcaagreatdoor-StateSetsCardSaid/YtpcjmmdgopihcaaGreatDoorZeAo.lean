/- Texts of this claim, merged by program: Rp Ie If Ig Ih Sa. -/
import Derived.Test.YtpcjmmdgopihcaaGreatDoorZeAh
import Derived.Test.YtpcjmmdgopihcaaGreatDoorZeAn
import Derived.Test.YtpcjmmdgopihcaaGreatDoorRows
import Derived.MakeChecks
import Derived.Test.YtpcjmmdgopihcaaGreatDoorZeAm
import Derived.Test.YtpcjmmdgopihcaaGreatDoorZeAe
import Derived.Test.YtpcjmmdgopihcaaGreatDoorZeAc
set_option linter.unusedSimpArgs false
set_option linter.unusedVariables false
namespace Go.Ev
theorem trod_int_inv {H : Type} {enc : TypeId × Value → H} {P : Program} {w : World} {base : Nat} {sp : Nat → Bool} {held : Bool} {fuel : Nat} {e : TypeId} {k : IntKind} {cs : List Value} {n : Int} {p : List MemPlace}
    (he : P.underlying e = some (.int k)) (h : DataW.trod enc P w base sp held fuel e cs = some (.lit (.int k n), p)) : cs = [.int k n] := by
  cases fuel with
  | zero => simp [DataW.trod] at h
  | succ f =>
    unfold DataW.trod at h
    rw [he] at h
    split at h <;> first | cases h | skip
    all_goals try (rename_i heq; cases heq)
    all_goals try (split at h <;> first | cases h | skip)
    all_goals first | (rename_i hh; obtain ⟨rfl, _⟩ := hh; rfl) | skip
theorem trod_ints_inv {H : Type} {enc : TypeId × Value → H} {P : Program} {w : World} {base : Nat} {sp : Nat → Bool} {held : Bool} {fuel : Nat} {t e : TypeId} {N : Nat} {k : IntKind} {cs : List Value} {ns : List Int} {p : List MemPlace}
    (ht : P.underlying t = some (.array N e)) (he : P.underlying e = some (.int k)) (hc : P.cellsOf e = 1) (hn : P.cellsOf t = N)
    (h : DataW.trod enc P w base sp held fuel t cs = some (.agg (ns.map fun n => .lit (.int k n)), p)) : cs = ns.map fun n => .int k n := by
  cases fuel with
  | zero => simp [DataW.trod] at h
  | succ f =>
    unfold DataW.trod at h
    rw [ht] at h
    dsimp only at h
    split at h
    case isFalse => cases h
    rename_i hl
    obtain ⟨xs, hxs, hx⟩ := Option.map_eq_some_iff.1 h
    injection hx with hx1 hx2
    injection hx1 with hx1
    have hlen := mapM_some_length hxs
    rw [List.length_range] at hlen
    have hl2 : ns.length = N := by
      have h9 := congrArg List.length hx1
      rw [List.length_map, List.length_map] at h9
      omega
    refine List.ext_getElem (by rw [List.length_map, hl2, hl, hn]) fun i h1 h2 => ?_
    have hiN : i < N := by rw [hl, hn] at h1; exact h1
    have hg := mapM_some_get hxs i i (by simp [hiN])
    have hxi : xs[i]? = some xs[i] := List.getElem?_eq_getElem (by omega)
    rw [hxi, hc, Nat.mul_one] at hg
    have hfst : (xs[i]'(by omega)).1 = .lit (.int k (ns[i]'(by omega))) := by
      have := congrArg (fun l => l[i]?) hx1
      simp only [List.getElem?_map, hxi, List.getElem?_eq_getElem (show i < ns.length by omega), Option.map_some, Option.some.injEq] at this
      exact this
    obtain ⟨q, hq⟩ : ∃ q, xs[i]'(by omega) = (.lit (.int k (ns[i]'(by omega))), q) := ⟨_, Prod.ext hfst rfl⟩
    rw [hq] at hg
    have h3 := trod_int_inv he hg
    have h4 : List.take 1 (List.drop i cs) = [cs[i]] := by
      rw [List.drop_eq_getElem_cons h1]; rfl
    rw [h4] at h3
    injection h3 with h3
    rw [h3, List.getElem_map]
theorem laidVars_mem {P : Program} {w : World} : ∀ {l : List (String × DataW Unit)} {ps : List MemPlace}, DataW.LaidVars P w l ps → ∀ x ∈ l, ∃ g t cs fuel p, P.globalNamed x.1 = some g ∧ (P.globals[g]?).map (·.type) = some t ∧ w.var? P x.1 = some cs ∧ DataW.trod (fun _ => ()) P w 0 (fun _ => true) false fuel t cs.toList = some (x.2, p)
  | [], _, _, x, hx => by cases hx
  | (n, d) :: r, ps, h, x, hx => by
    obtain ⟨g, t, cs, fuel, p, q, h1, h2, h3, h4, h5, -⟩ := h
    rcases List.mem_cons.1 hx with rfl | hx
    · exact ⟨g, t, cs, fuel, p, h1, h2, h3, h4⟩
    · exact laidVars_mem h5 x hx
end Go.Ev
namespace Go.Ev
open Go.ChangeShapes Go.WideShapes Go.ChangeAt Go.RowKit
section
variable {H : Type} {enc : TypeId × Value → H} {P : Program} {w : World} {base : Nat} {spare : Nat → Bool} {held : Bool} {T : TypeId → Prop}
theorem slice_of_cells (K : Kids P T) {d fuel : Nat} {t e : TypeId} {ks : List FK} {cs : List Value} {x : DataW H × List MemPlace} (ht : P.underlying t = some (.slice e)) (hT : T t) (hks : flatT P d e = some ks) (hpos : 0 < P.cellsOf e)
    (hf : DataW.trod enc P w base spare held fuel t cs = some x) : ∃ (p : Option Addr) (len cap : Nat) (f : Nat → List Value), cs = [.slice p len cap] ∧ len ≤ cap ∧ cap ≤ maxLen ∧ (∀ i, i < len → All2 FK.ok ks (f i)) ∧
      (len = 0 ∨ ∃ b o, p = some ⟨b, o, none⟩ ∧ cellsAt (roW w) b o (len * P.cellsOf e) = some ((List.range len).flatMap f)) := by
  obtain ⟨dd, ps⟩ := x
  rcases Deep.open_slice ht hf with ⟨h1, _⟩ | ⟨a', len, cap, m, n, D, Pl, h1, hb, hl, hm, hmm, _, hx⟩
  · exact ⟨none, 0, 0, fun _ => [], h1, Nat.le_refl _, Nat.zero_le _, fun i hi => absurd hi (Nat.not_lt_zero _), .inl rfl⟩
  · have hlm : len ≤ m := by rw [hmm]; split <;> omega
    obtain ⟨f, hf⟩ := Deep.choose_lt (α := List Value) (n := len) (p := fun i cs' => w.cells? base (a'.add (i * P.cellsOf e)) (P.cellsOf e) = some cs' ∧ All2 FK.ok ks cs') fun i hi => by
      obtain ⟨cs', h2, h3⟩ := hx i (by omega)
      exact ⟨cs', h2, flat_of_trod K d (K.slice hT ht) hks h3⟩
    refine ⟨some a', len, cap, f, h1, hl, hm, fun i hi => (hf i hi).2, ?_⟩
    rcases Nat.eq_zero_or_pos len with h0 | h0
    · exact .inl h0
    · obtain ⟨h4, h5⟩ := roW_row f hpos (fun i hi => (hf i hi).1) h0
      refine .inr ⟨a'.block, a'.off, ?_, h5⟩
      rw [← h4]
theorem liR_of_cells (K : Kids P T) {α : Type} {c : α → List Value} {s d fuel : Nat} {t e : TypeId} {ks : List FK} {cs : List Value} {x : DataW H × List MemPlace} (Q : α → Prop) (hc : ∀ cs, All2 FK.ok ks cs → ∃ y, cs = c y ∧ Q y) (ht : P.underlying t = some (.slice e)) (hT : T t) (hks : flatT P d e = some ks) (hpos : 0 < s) (hs : P.cellsOf e = s)
    (hf : DataW.trod enc P w base spare held fuel t cs = some x) : ∃ l p cap, cs = [.slice p l.length cap] ∧ LiR c s (roW w) l (.slice p l.length cap) ∧ l.length ≤ cap ∧ cap ≤ maxLen ∧ ∀ y ∈ l, Q y := by
  obtain ⟨p, len, cap, f, rfl, hl, hm, hf, hcc⟩ := slice_of_cells K ht hT hks (by omega) hf
  by_cases h0 : len = 0
  · subst h0
    exact ⟨[], p, cap, rfl, ⟨p, cap, rfl, .inl rfl⟩, hl, hm, fun y hy => by cases hy⟩
  obtain ⟨y0, _, _⟩ := hc _ (hf 0 (Nat.pos_of_ne_zero h0))
  haveI : Inhabited α := ⟨y0⟩
  obtain ⟨g, hg⟩ := Deep.choose_lt (α := α) (n := len) (p := fun i y => f i = c y ∧ Q y) fun i hi => hc _ (hf i hi)
  refine ⟨(List.range len).map g, p, cap, by simp, ⟨p, cap, by simp, ?_⟩, by simpa using hl, hm, fun y hy => ?_⟩
  · rcases hcc with rfl | ⟨b, o, rfl, hcc⟩
    · exact .inl rfl
    · refine .inr ⟨b, o, rfl, ?_⟩
      rw [hs] at hcc
      simp only [List.length_map, List.length_range]
      rw [hcc, List.flatMap_map, List.flatMap_def, List.flatMap_def]
      congr 2
      exact List.map_congr_left fun i hi => (hg i (List.mem_range.1 hi)).1
  · obtain ⟨i, hi, rfl⟩ := List.mem_map.1 hy
    exact (hg i (List.mem_range.1 hi)).2
end
end Go.Ev
namespace Go.Proofs.YtpcjmmdgopihcaaGreatDoor
open Go Go.Ev Go.Proofs Go.ChangeShapes Go.WideShapes Go.ChangeAt Go.RowKit
set_option maxRecDepth 100000
set_option maxHeartbeats 4000000
theorem r4_cells {cs : List Value} (h : All2 FK.ok [.int .i64, .int .i64, .int .i64, .int .i64] cs) : ∃ x : R4, cs = x.cells ∧ x.In := by
  cases h with
  | cons a0 h =>
    cases h with
    | cons a1 h =>
      cases h with
      | cons a2 h =>
        cases h with
        | cons a3 h =>
          cases h
          obtain ⟨x0, rfl, w0⟩ := a0
          obtain ⟨x1, rfl, w1⟩ := a1
          obtain ⟨x2, rfl, w2⟩ := a2
          obtain ⟨x3, rfl, w3⟩ := a3
          exact ⟨⟨x0, x1, x2, x3⟩, rfl, i64_wf w0, i64_wf w1, i64_wf w2, i64_wf w3⟩
theorem raw4_of {H : Type} {enc : TypeId × Value → H} {W0 : World} {r : Reach} {b0 base : Nat} {spare : Nat → Bool} {held : Bool} {v : Value} {dd : DataW H} {ps : List MemPlace} (hval : Value.okWide Tryz.prog W0 r b0 23 v)
    (h : DataW.Trod enc Tryz.prog W0 base spare held 23 v dd ps) : ∃ l, LiR R4.cells 4 (roW W0) l v ∧ ∀ x ∈ l, x.In := by
  have hu : Tryz.prog.underlying 23 = some (.slice 34) := by kernel_rfl
  obtain ⟨a, len, cap, rfl⟩ := okWide_slice hu hval
  obtain ⟨fuel, hf⟩ := h
  obtain ⟨l, p, k, g, r0, _, _, q⟩ := liR_of_cells kids (c := R4.cells) (s := 4) (d := 8) (e := 34) (ks := [.int .i64, .int .i64, .int .i64, .int .i64]) _ (fun _ => r4_cells) hu (by show _ < _; decide +kernel) (by kernel_rfl) (by decide) (by decide +kernel) hf
  simp only [Value.cells, List.cons.injEq, Value.slice.injEq, and_true] at g
  obtain ⟨rfl, rfl, rfl⟩ := g
  exact ⟨l, r0, q⟩
theorem int4_of {H : Type} {enc : TypeId × Value → H} {W0 : World} {r : Reach} {b0 base : Nat} {spare : Nat → Bool} {held : Bool} {v : Value} {dd : DataW H} {ps : List MemPlace} (hval : Value.okWide Tryz.prog W0 r b0 34 v)
    (h : DataW.Trod enc Tryz.prog W0 base spare held 34 v dd ps) : ∃ w : R4, v = w.v ∧ w.In := by
  obtain ⟨w, hw, hi⟩ := r4_cells (flat_of_Trod kids (d := 8) (ks := [.int .i64, .int .i64, .int .i64, .int .i64]) (by show _ < _; decide +kernel) (by kernel_rfl) h)
  obtain ⟨e, hu⟩ : ∃ e, Tryz.prog.underlying 34 = some (.array 4 e) := ⟨3, by kernel_rfl⟩
  simp only [Value.okWide, hu] at hval
  obtain ⟨cs, rfl, h2, _⟩ := hval
  refine ⟨w, ?_, hi⟩
  show Value.agg cs = .agg w.cells.toArray
  rw [← hw]
  rfl
theorem konR_of {W : World} {laid : List (String × DataW Unit)} (h : laidMetH Tryz.prog laid W) (hp : (laid.all fun x => x.2.handleName?.isNone) = true) (hm : ("railhead/keccak.constants", Rows.laid_railhead_keccak_constants) ∈ laid) : KonR (roW W) := by
  rw [MakeChecks.laidMetH_plain _ _ _ hp] at h
  obtain ⟨ps, h1, -, -⟩ := h
  obtain ⟨g, t, cs, fuel, p, hg, ht, hv, hd⟩ := laidVars_mem h1 _ hm
  have hg0 : Tryz.prog.globalNamed "railhead/keccak.constants" = some 0 := by kernel_rfl
  dsimp only at hg hv hd
  rw [hg0] at hg
  cases hg
  have ht0 : ((Tryz.prog.globals[0]?).map (·.type)) = some 135 := by kernel_rfl
  rw [ht0] at ht
  cases ht
  have hd2 : DataW.trod (fun _ => ()) Tryz.prog W 0 (fun _ => true) false fuel 135 cs.toList = some (.agg ((consK.map (fun n : Nat => (n : Int))).map fun n => .lit (.int .u64 n)), p) := hd
  have hcs := trod_ints_inv (e := 26) (N := 24) (by kernel_rfl) (by kernel_rfl) (by kernel_rfl) (by kernel_rfl) hd2
  unfold World.var? at hv
  rw [hg0] at hv
  simp only [Option.bind_some] at hv
  unfold KonR cellsAt
  cases hh : W.heap[0]? with
  | none => rw [hh] at hv; cases hv
  | some o =>
    have hlt : 0 < W.heap.size := (Array.getElem?_eq_some_iff.1 hh).1
    rw [hh] at hv
    cases o <;> first | cases hv | skip
    rw [roW_find hlt]
    unfold blkE
    rw [hh]
    dsimp only
    rw [hcs, if_pos (Nat.le_refl _)]
    simp only [Nat.sub_self]
    rfl
end Go.Proofs.YtpcjmmdgopihcaaGreatDoor
set_option linter.unusedSimpArgs false
set_option linter.unusedVariables false
namespace Go.Ev
def byC (x : UInt8) : List Value := [.int .u8 x.toNat]
theorem byC_len (x : UInt8) : (byC x).length = 1 := rfl
theorem byV_len (l : List UInt8) : (byteV l).length = l.length := by unfold byteV; rw [List.length_map]
theorem byV_flat (l : List UInt8) : l.flatMap byC = byteV l := by
  induction l with
  | nil => rfl
  | cons x r ih => rw [List.flatMap_cons, ih]; rfl
def lowN : List UInt8 → Nat
  | [] => 0
  | x :: r => x.toNat + 256 * lowN r
theorem lowN_lt : ∀ (r : List UInt8), lowN r < 256 ^ r.length
  | [] => by decide
  | x :: r => by
    have h := lowN_lt r
    have hx := x.toNat_lt
    rw [List.length_cons, Nat.pow_succ]
    show x.toNat + 256 * lowN r < _
    have : 256 * (lowN r + 1) ≤ 256 * 256 ^ r.length := Nat.mul_le_mul_left _ h
    rw [Nat.mul_comm (256 ^ r.length)]
    omega
theorem lowN_take (r : List UInt8) : ∀ {i : Nat} (h : i < r.length), lowN (r.take (i + 1)) = lowN (r.take i) + (r[i]).toNat * 256 ^ i := by
  induction r with
  | nil => intro i h; exact absurd h (Nat.not_lt_zero _)
  | cons x r ih =>
    intro i h
    cases i with
    | zero => simp [lowN]
    | succ i =>
      simp only [List.take_succ_cons, lowN, List.getElem_cons_succ]
      have e : ∀ a p : Nat, 256 * (a * p) = a * (p * 256) := fun a p => by rw [← Nat.mul_assoc, Nat.mul_comm 256 a, Nat.mul_assoc, Nat.mul_comm 256 p]
      rw [ih (by simpa using h), Nat.pow_succ, Nat.mul_add, e, Nat.add_assoc]
theorem or_shl8 {x c r : Nat} (hr : r < 8) (hx : x < 256 ^ r) (hc : c < 256) : bitsI .or .u64 (x : Int) (shlI .u64 (c : Int) (8 * (r : Int))) = ((x + c * 256 ^ r : Nat) : Int) ∧ x + c * 256 ^ r < 18446744073709551616 := by
  have e8 : (256 : Nat) ^ r = 2 ^ (8 * r) := by rw [Nat.pow_mul]
  have hle : (256 : Nat) ^ r ≤ 256 ^ 7 := Nat.pow_le_pow_right (by decide) (by omega)
  have hc2 : c * 256 ^ r ≤ 255 * 256 ^ r := Nat.mul_le_mul_right _ (by omega)
  have hlt : x + c * 256 ^ r < 256 * 256 ^ r := by omega
  have h64 : 256 * 256 ^ r ≤ 18446744073709551616 := by
    have := Nat.mul_le_mul_left 256 hle
    exact Nat.le_trans this (by decide)
  refine ⟨?_, by omega⟩
  have es : shlI .u64 (c : Int) (8 * (r : Int)) = ((c * 256 ^ r : Nat) : Int) := by
    unfold shlI
    rw [IntKind.wrap_u64, show (8 * (r : Int)).toNat = 8 * r by omega, show min (8 * r) IntKind.u64.bits = 8 * r by show min (8 * r) 64 = 8 * r; omega]
    rw [show (2 : Int) ^ (8 * r) = ((256 ^ r : Nat) : Int) by rw [e8, Int.natCast_pow]; rfl, ← Int.natCast_mul]
    omega
  rw [es]
  have h := bits_or_u64_nat x (c * 256 ^ r) (by omega) (by omega)
  have e : x ||| c * 256 ^ r = x + c * 256 ^ r := by
    rw [Nat.or_comm, Nat.mul_comm, e8, ← Nat.two_pow_add_eq_or_of_lt (by rw [← e8]; exact hx), Nat.add_comm]
  rw [e] at h
  exact h
def padJ (l : List UInt8) (j : Nat) : List UInt8 := l ++ 1 :: List.replicate j 0
theorem padJ_0 (l : List UInt8) : padJ l 0 = l ++ [1] := rfl
theorem padJ_s (l : List UInt8) (j : Nat) : padJ l (j + 1) = padJ l j ++ [0] := by
  unfold padJ
  rw [List.replicate_succ', List.append_assoc, List.cons_append]
theorem padJ_len (l : List UInt8) (j : Nat) : (padJ l j).length = l.length + 1 + j := by
  unfold padJ
  rw [List.length_append, List.length_cons, List.length_replicate]; omega
theorem byV_at {a : List UInt8} {i : Nat} (h : i < a.length) : List.take 1 (List.drop i (byteV a)) = [.int .u8 ((a.getD i 0).toNat : Nat)] := by
  unfold byteV
  rw [← List.map_drop, ← List.map_take, List.drop_eq_getElem_cons h, List.take_succ_cons, List.take_zero, List.map_cons, List.map_nil, List.getD_eq_getElem?_getD, List.getElem?_eq_getElem h, Option.getD_some]
theorem byV_set {a : List UInt8} {i : Nat} {x : UInt8} (h : i < a.length) : List.take i (byteV a) ++ .int .u8 (x.toNat : Nat) :: List.drop (i + 1) (byteV a) = byteV (a.set i x) := by
  unfold byteV
  rw [List.set_eq_take_append_cons_drop, if_pos h, List.map_append, List.map_cons, List.map_take, List.map_drop]
def padJ_many (n : Nat) : Nat := (136 - (n + 1) % 136) % 136
def orL (L : List UInt8) : List UInt8 := L.set (L.length - 1) (L.getD (L.length - 1) 0 ||| 128)
noncomputable def padK (l : List UInt8) : List UInt8 := orL (padJ l (padJ_many l.length))
theorem padK_len (l : List UInt8) : (padK l).length = l.length + 1 + padJ_many l.length := by
  unfold padK orL
  rw [List.length_set, padJ_len]
theorem padK_mod (l : List UInt8) : (padK l).length % 136 = 0 := by
  rw [padK_len]
  unfold padJ_many
  omega
theorem or128 : ∀ x < 256, bitsI .or .u8 ((x : Nat) : Int) 128 = ((x ||| 128 : Nat) : Int) := by decide +kernel
end Go.Ev
namespace Go.Proofs.YtpcjmmdgopihcaaGreatDoor
open Go Go.Ev Go.Proofs
set_option maxRecDepth 100000
set_option maxHeartbeats 4000000
theorem low_ok {M : Hp} {l : List UInt8} {v : Value} (hl : LiR byC 1 M l v) (hm : marksOf M = []) (h8 : l.length ≤ 8) : CallsV Tryz.prog 82 [v] M (Ret0 (.int .u64 (lowN l : Nat))) := by
  obtain ⟨p, k, rfl, hla⟩ := LiR.openC byC_len (by decide) hl
  refine callsO gI0_ok Tryz.mix Tryz.pl82 Tryz.func82 rfl Tryz.ntmps82 Tryz.results82 rfl (by first | rfl | assumption) (Nat.le_of_ble_eq_true rfl) (by kernel_rfl) ?_
  simp only [push_cast, Nat.reduceAdd, Nat.reduceSub, Nat.reduceMul, Nat.reduceLT, Nat.reduceLeDiff, Nat.reduceEqDiff, Nat.reduceMod, Nat.reduceDiv, Int.reduceAdd, Int.reduceSub, Int.reduceMul, Int.reduceLT, Int.reduceLE, Int.reduceEq, Int.reduceNeg, Int.reduceToNat, reduceIte, reduceCtorEq, Int.reduceBEq, Int.reduceBNe]
  refine loopO gI0_ok (pl := Tryz.pl82) Tryz.mix (X := Nat)
    (fun i => ([(2, .int .u64 (lowN (l.take i) : Nat)), (5, .slice p l.length k), (6, .int .i64 l.length), (7, .int .i64 i)], M))
    (fun i => i ≤ l.length) (fun i => l.length - i) 0 ?_ ?_ (by kernel_rfl) ?_
  · exact Nat.zero_le _
  · simp only [push_cast, Nat.reduceAdd, Nat.reduceSub, Nat.reduceMul, Nat.reduceLT, Nat.reduceLeDiff, Nat.reduceEqDiff, Nat.reduceMod, Nat.reduceDiv, Int.reduceAdd, Int.reduceSub, Int.reduceMul, Int.reduceLT, Int.reduceLE, Int.reduceEq, Int.reduceNeg, Int.reduceToNat, reduceIte, reduceCtorEq, Int.reduceBEq, Int.reduceBNe, List.take_zero, lowN]
    try exact subH_self _
  · intro i hi
    by_cases hc : i < l.length
    · rcases hla with hl0 | ⟨b, f, d, kd, cs, rfl, hfe, hat⟩
      · rw [hl0] at hc; simp at hc
      obtain ⟨a1, a2⟩ := hat i l[i] (List.getElem?_eq_getElem hc)
      rw [Nat.mul_one] at a1 a2
      rw [show byC l[i] = [.int .u8 (l[i]).toNat] from rfl] at a2
      have i1 : (i : Int) < (l.length : Int) := by omega
      have hst := lowN_take l hc
      have hx := lowN_lt (l.take i)
      rw [List.length_take, Nat.min_eq_left (by omega)] at hx
      obtain ⟨c, hcc⟩ : ∃ c, c = (l[i]).toNat := ⟨_, rfl⟩
      have hc2 : c < 256 := hcc ▸ (l[i]).toNat_lt
      rw [← hcc] at a2 hst
      obtain ⟨o1, o2⟩ := or_shl8 (x := lowN (l.take i)) (c := c) (r := i) (by omega) hx hc2
      rw [← hst] at o1 o2
      have w1 : IntKind.u64.wrap (c : Int) = (c : Int) := by rw [IntKind.wrap_u64]; omega
      have w2 : ¬ (8 * (i : Int) < 0) := by omega
      simp only [push_cast, Nat.reduceAdd, Nat.reduceSub, Nat.reduceMul, Nat.reduceLT, Nat.reduceLeDiff, Nat.reduceEqDiff, Nat.reduceMod, Nat.reduceDiv, Int.reduceAdd, Int.reduceSub, Int.reduceMul, Int.reduceLT, Int.reduceLE, Int.reduceEq, Int.reduceNeg, Int.reduceToNat, reduceIte, reduceCtorEq, Int.reduceBEq, Int.reduceBNe, hc, i1, hfe, a1, a2, w1, w2, wrap_i64' (show -9223372036854775808 ≤ 8 * (i : Int) ∧ 8 * (i : Int) ≤ 9223372036854775807 by omega), o1, wrap_i64' (show -9223372036854775808 ≤ (i : Int) + 1 ∧ (i : Int) + 1 ≤ 9223372036854775807 by omega)]
      exact ⟨i + 1, hc, by omega, rfl, rfl⟩
    · obtain rfl : i = l.length := by omega
      have i1 : ¬ (l.length : Int) < (l.length : Int) := by omega
      simp only [push_cast, Nat.reduceAdd, Nat.reduceSub, Nat.reduceMul, Nat.reduceLT, Nat.reduceLeDiff, Nat.reduceEqDiff, Nat.reduceMod, Nat.reduceDiv, Int.reduceAdd, Int.reduceSub, Int.reduceMul, Int.reduceLT, Int.reduceLE, Int.reduceEq, Int.reduceNeg, Int.reduceToNat, reduceIte, reduceCtorEq, Int.reduceBEq, Int.reduceBNe, hc, i1, List.take_length]
theorem low_R {M : Hp} {l : List UInt8} {v : Value} (hl : LiR byC 1 M l v) (h8 : l.length ≤ 8) : ∀ M0, roM M0 → cellsAt M0 = cellsAt M → CallsV Tryz.prog 82 [v] M0 (Ret0 (.int .u64 (lowN l : Nat))) :=
  fun _ hr he => low_ok (hl.congr he.symm) hr.marks h8
noncomputable def gI1 : Gam := addM bytesFlag flagM gI0
attribute [push_cast] gI1
theorem gI1_ok : GamOk Tryz.prog gI1 := addM_ok flagM_ok gI0_ok
attribute [-push_cast] evAppend_nil evAppend_some
theorem pad_ok (l : List UInt8) (hl : l.length ≤ 2000000) : CallsV Tryz.prog 81 [.string ⟨l.toArray⟩] [] (Ret0 (.string ⟨(padK l).toArray⟩)) := by
  have hsz : (ByteArray.mk l.toArray).size = l.length := by simp [ByteArray.size]
  refine callsO gI1_ok Tryz.mix Tryz.pl81 Tryz.func81 rfl Tryz.ntmps81 Tryz.results81 rfl (by first | rfl | assumption) (Nat.le_of_ble_eq_true rfl) (by kernel_rfl) ?_
  simp only [push_cast, Nat.reduceAdd, Nat.reduceSub, Nat.reduceMul, Nat.reduceLT, Nat.reduceLeDiff, Nat.reduceEqDiff, Nat.reduceMod, Nat.reduceDiv, Int.reduceAdd, Int.reduceSub, Int.reduceMul, Int.reduceLT, Int.reduceLE, Int.reduceEq, Int.reduceNeg, Int.reduceToNat, reduceIte, reduceCtorEq, Int.reduceBEq, Int.reduceBNe, hsz]
  intro b c hc b1 hb1
  obtain ⟨J, hJ0⟩ : ∃ J, J = padJ_many l.length := ⟨_, rfl⟩
  have hJ : J = (136 - (l.length + 1) % 136) % 136 := hJ0
  have hb1' : fresh b1 [⟨b, 0, .vec 5 1 c, byteV l⟩] := ⟨hb1.1, hb1.2, trivial⟩
  refine push_gA (P := Tryz.prog) (e := 5) (sz := 1) (c := byC) (x := (1 : UInt8)) (N := [⟨b, 0, .vec 5 1 c, byteV l⟩]) (X := []) [] (by_ := 1) (q := 1) (ag := false) (l := l) (.inr ⟨b, c, rfl, hc, by rw [byV_flat, byV_len, Nat.mul_one], by rw [byV_flat]⟩) ⟨hb1', trivial⟩ (by simp only [push_cast, Nat.reduceAdd, Nat.reduceSub, Nat.reduceMul, Nat.reduceLT, Nat.reduceLeDiff, Nat.reduceEqDiff, Nat.reduceMod, Nat.reduceDiv, Int.reduceAdd, Int.reduceSub, Int.reduceMul, Int.reduceLT, Int.reduceLE, Int.reduceEq, Int.reduceNeg, Int.reduceToNat, reduceIte, reduceCtorEq, Int.reduceBEq, Int.reduceBNe]) (by simp only [push_cast, Nat.reduceAdd, Nat.reduceSub, Nat.reduceMul, Nat.reduceLT, Nat.reduceLeDiff, Nat.reduceEqDiff, Nat.reduceMod, Nat.reduceDiv, Int.reduceAdd, Int.reduceSub, Int.reduceMul, Int.reduceLT, Int.reduceLE, Int.reduceEq, Int.reduceNeg, Int.reduceToNat, reduceIte, reduceCtorEq, Int.reduceBEq, Int.reduceBNe]) rfl rfl (by unfold two47; omega) fun v3 N3 ho4 hf4 => ?_
  rw [← padJ_0] at ho4
  obtain ⟨p3, c3, rfl⟩ := ho4.slice
  have h0l := padJ_len l 0
  rw [h0l] at ho4
  simp only [push_cast, Nat.reduceAdd, Nat.reduceSub, Nat.reduceMul, Nat.reduceLT, Nat.reduceLeDiff, Nat.reduceEqDiff, Nat.reduceMod, Nat.reduceDiv, Int.reduceAdd, Int.reduceSub, Int.reduceMul, Int.reduceLT, Int.reduceLE, Int.reduceEq, Int.reduceNeg, Int.reduceToNat, reduceIte, reduceCtorEq, Int.reduceBEq, Int.reduceBNe]
  have w3 := ho4.wr.2
  refine loopO gI1_ok (pl := Tryz.pl81) Tryz.mix (X := {x : (Nat × Value) × Hp // marksOf x.2 = []})
    (fun x => ([(3, x.1.1.2)], x.1.2))
    (fun x => x.1.1.1 ≤ J ∧ OutG 5 1 ((padJ l x.1.1.1).flatMap byC) (l.length + 1 + x.1.1.1) x.1.1.2 x.1.2) (fun x => J - x.1.1.1) ⟨((0, .slice p3 (l.length + 1 + 0) c3), N3), w3⟩ ?_ ?_ (by kernel_rfl) ?_
  · exact ⟨Nat.zero_le _, ho4⟩
  · simp only [push_cast, Nat.reduceAdd, Nat.reduceSub, Nat.reduceMul, Nat.reduceLT, Nat.reduceLeDiff, Nat.reduceEqDiff, Nat.reduceMod, Nat.reduceDiv, Int.reduceAdd, Int.reduceSub, Int.reduceMul, Int.reduceLT, Int.reduceLE, Int.reduceEq, Int.reduceNeg, Int.reduceToNat, reduceIte, reduceCtorEq, Int.reduceBEq, Int.reduceBNe, marks_append, marksOf, w3, h0l]
    try exact subH_app _ _
  · rintro ⟨⟨⟨j, vj⟩, N⟩, hNm⟩ ⟨hj, ho⟩
    dsimp only at hj ho hNm ⊢
    obtain ⟨pj, cj, rfl⟩ := ho.slice
    have hlen := padJ_len l j
    have hstep := padJ_s l j
    obtain ⟨L, hL⟩ : ∃ L, L = padJ l j := ⟨_, rfl⟩
    obtain ⟨n, hn⟩ : ∃ n, n = l.length + 1 + j := ⟨_, rfl⟩
    rw [← hL] at ho hlen hstep
    rw [← hn] at hlen ho ⊢
    have et : (n : Int).tmod 136 = (n : Int) % 136 := Int.tmod_eq_emod_of_nonneg (by omega)
    by_cases hc2 : j < J
    · have m1 : ((n : Int) % 136 != 0) = true := bne_iff_ne.2 (by omega)
      simp only [push_cast, Nat.reduceAdd, Nat.reduceSub, Nat.reduceMul, Nat.reduceLT, Nat.reduceLeDiff, Nat.reduceEqDiff, Nat.reduceMod, Nat.reduceDiv, Int.reduceAdd, Int.reduceSub, Int.reduceMul, Int.reduceLT, Int.reduceLE, Int.reduceEq, Int.reduceNeg, Int.reduceToNat, reduceIte, reduceCtorEq, Int.reduceBEq, Int.reduceBNe, et, m1]
      intro bs hbs
      rw [← hlen] at ho ⊢
      have hNN : N = N ++ [] := (List.append_nil N).symm
      obtain ⟨N0, hN0⟩ : ∃ N0, N0 = N := ⟨_, rfl⟩
      rw [← hN0] at hNN ho hbs ⊢
      rw [hNN]
      refine push_gA (P := Tryz.prog) (e := 5) (sz := 1) (c := byC) (x := (0 : UInt8)) (N := N0) (X := []) [] (by_ := 1) (q := 1) (ag := false) (l := L) ho ⟨hbs, trivial⟩ (by simp only [push_cast, Nat.reduceAdd, Nat.reduceSub, Nat.reduceMul, Nat.reduceLT, Nat.reduceLeDiff, Nat.reduceEqDiff, Nat.reduceMod, Nat.reduceDiv, Int.reduceAdd, Int.reduceSub, Int.reduceMul, Int.reduceLT, Int.reduceLE, Int.reduceEq, Int.reduceNeg, Int.reduceToNat, reduceIte, reduceCtorEq, Int.reduceBEq, Int.reduceBNe]) (by simp only [push_cast, Nat.reduceAdd, Nat.reduceSub, Nat.reduceMul, Nat.reduceLT, Nat.reduceLeDiff, Nat.reduceEqDiff, Nat.reduceMod, Nat.reduceDiv, Int.reduceAdd, Int.reduceSub, Int.reduceMul, Int.reduceLT, Int.reduceLE, Int.reduceEq, Int.reduceNeg, Int.reduceToNat, reduceIte, reduceCtorEq, Int.reduceBEq, Int.reduceBNe]) rfl rfl (by unfold two47; omega) fun v4 N4 ho5 hf5 => ?_
      obtain ⟨p4, c4, rfl⟩ := ho5.slice
      have hl5 : (L ++ [0]).length = l.length + 1 + (j + 1) := by rw [List.length_append, hlen]; show n + 1 = _; omega
      rw [hl5, ← hstep] at ho5
      have w5 := ho5.wr.2
      have w0 := ho.wr.2
      simp only [push_cast, Nat.reduceAdd, Nat.reduceSub, Nat.reduceMul, Nat.reduceLT, Nat.reduceLeDiff, Nat.reduceEqDiff, Nat.reduceMod, Nat.reduceDiv, Int.reduceAdd, Int.reduceSub, Int.reduceMul, Int.reduceLT, Int.reduceLE, Int.reduceEq, Int.reduceNeg, Int.reduceToNat, reduceIte, reduceCtorEq, Int.reduceBEq, Int.reduceBNe, hl5]
      refine ⟨⟨((j + 1, .slice p4 (l.length + 1 + (j + 1)) c4), N4), w5⟩, ⟨hc2, ho5⟩, by dsimp only; omega, rfl, ?_, ?_⟩
      · exact subH_app _ _
      · simp [marks_append, marksOf, w5, w0]
    · obtain rfl : j = J := by omega
      have m1 : ((n : Int) % 136 != 0) = false := by rw [show (n : Int) % 136 = 0 by omega]; rfl
      rcases ho with ⟨r1, -⟩ | ⟨bu, cu, r3, r4, r5, rfl⟩
      · omega
      cases r3
      obtain ⟨m, hm⟩ : ∃ m, m = l.length + j := ⟨_, rfl⟩
      have em : IntKind.i64.wrap ((n : Int) - 1) = (m : Int) := by
        rw [show (n : Int) - 1 = (m : Int) by omega]
        exact IntWalk.i64_in _ (by omega)
      have hmL : m < L.length := by omega
      have a1 := byV_at hmL
      have a2 := or128 (L.getD m 0).toNat (L.getD m 0).toNat_lt
      have a3 := byV_set (x := L.getD m 0 ||| 128) hmL
      rw [UInt8.toNat_or, show (128 : UInt8).toNat = 128 from rfl] at a3
      have m2 : (0 : Int) ≤ m := by omega
      have m3 : (m : Int) < (n : Int) := by omega
      have m4 : m + 1 ≤ n := by omega
      have lb : (byteV L).length = n := by rw [byV_len, hlen]
      have lc : (byteV (L.set m (L.getD m 0 ||| 128))).length = n := by rw [byV_len, List.length_set, hlen]
      have hfin : padK l = L.set m (L.getD m 0 ||| 128) := by
        unfold padK orL
        rw [← hJ0, ← hL, hlen, show n - 1 = m by omega]
      rw [hfin]
      rw [byV_flat]
      simp only [push_cast, Nat.reduceAdd, Nat.reduceSub, Nat.reduceMul, Nat.reduceLT, Nat.reduceLeDiff, Nat.reduceEqDiff, Nat.reduceMod, Nat.reduceDiv, Int.reduceAdd, Int.reduceSub, Int.reduceMul, Int.reduceLT, Int.reduceLE, Int.reduceEq, Int.reduceNeg, Int.reduceToNat, reduceIte, reduceCtorEq, Int.reduceBEq, Int.reduceBNe, et, m1, em, m2, m3, m4, lb, lc, a1, a2, a3, (show ¬ n = 0 by omega), (List.take_of_length_le (Nat.le_of_eq lc) : List.take n (byteV (L.set m (L.getD m 0 ||| 128))) = _), bytesOf_byteV]
end Go.Proofs.YtpcjmmdgopihcaaGreatDoor
set_option linter.unusedSimpArgs false
set_option linter.unusedVariables false
namespace Go.Proofs.YtpcjmmdgopihcaaGreatDoor
open Go Go.Ev Go.Proofs
set_option maxRecDepth 100000
set_option maxHeartbeats 4000000
def chkV (bq B : Nat) : List (List Value) := (List.range B).map fun j => [.slice (some ⟨bq, 136 * j, none⟩) 136 136]
theorem chkV_at {bq B k : Nat} {args : List Value} (h : (chkV bq B)[k]? = some args) : k < B ∧ args = [.slice (some ⟨bq, 136 * k, none⟩) 136 136] := by
  unfold chkV at h
  rw [List.getElem?_map] at h
  obtain ⟨j, hj, rfl⟩ := Option.map_eq_some_iff.1 h
  obtain ⟨h1, h2⟩ := List.getElem?_eq_some_iff.1 hj
  rw [List.getElem_range] at h2
  subst h2
  rw [List.length_range] at h1
  exact ⟨h1, rfl⟩
theorem chkV_one {bq B : Nat} : ∀ args ∈ chkV bq B, args.length = 1 := fun args h => by
  obtain ⟨j, -, rfl⟩ := List.mem_map.1 h
  rfl
theorem chkV_len (bq B : Nat) : (chkV bq B).length = B := by unfold chkV; simp
theorem chunk1_ok {Hc : Hp} {b2 b3 bq B c T : Nat} {k2 k3 : Kind} (hT : T = 136 * B) (hTc : T ≤ c) (hB : B ≤ 1000000) (hmc : marksOf Hc = []) (h2 : findE Hc b2 = some ⟨b2, 0, k2, [.slice (some ⟨bq, 0, none⟩) T c]⟩) (h3 : findE Hc b3 = some ⟨b3, 0, k3, [.int .i64 136]⟩) :
    IterV Tryz.prog 106 [.pointer (some ⟨b2, 0, none⟩), .pointer (some ⟨b3, 0, none⟩)] Hc (chkV bq B) := by
  refine ⟨enterO Tryz.func106 rfl rfl, fun X Ho I St l x0 hro hmk h0 hy => ?_⟩
  have hmarks : ∀ x, marksOf (Hc ++ Ho x) = [] := fun x => by rw [marks_append, hmc, hmk]; rfl
  have hm0 := hmarks x0
  have h2' := fun z => findE_appT (B := Ho z) h2
  have h3' := fun z => findE_appT (B := Ho z) h3
  have yl : ∀ (j : Nat) (z : X) (v : Value) (K' : Value → Hp → Prop), j < B → v = .slice (some ⟨bq, 136 * j, none⟩) 136 136 → I j z → (∀ x', I (j + 1) x' → K' (.bool true) (Hc ++ Ho x')) → (∀ x', St x' → K' (.bool false) (Hc ++ Ho x')) → YieldV Tryz.prog l [v] (Hc ++ Ho z) K' := fun j z v K' hj hv hi ht hf => by
    subst hv
    refine (hy j z [.slice (some ⟨bq, 136 * j, none⟩) 136 136] (by unfold chkV; rw [List.getElem?_map, List.getElem?_range hj]; rfl) hi).frame ?_ ?_
    · rintro v H' (⟨rfl, x', _, rfl⟩ | ⟨rfl, x', _, rfl⟩) <;> exact hro z x'
    · rintro v H' (⟨rfl, x', h, rfl⟩ | ⟨rfl, x', h, rfl⟩)
      · exact ht x' h
      · exact hf x' h
  have yf : ∀ (x' : X), (I (chkV bq B).length x' ∨ St x') → ∃ H'_1, List.Sublist H'_1 (dropM (Hc ++ Ho x')) ∧ ∃ z, (I (chkV bq B).length z ∨ St z) ∧ H'_1 = Ho z := fun x' hst => by
    refine ⟨Ho x', ?_, x', hst, rfl⟩
    rw [dropM_eq (hmarks x')]
    exact List.sublist_append_right _ _
  have hvl := chkV_len bq B
  obtain ⟨vs, hvs⟩ : ∃ vs, vs = chkV bq B := ⟨_, rfl⟩
  rw [← hvs] at yf hvl ⊢
  refine callsO gI0_ok Tryz.mix Tryz.pl106 Tryz.func106 rfl Tryz.ntmps106 Tryz.results106 rfl (by first | rfl | assumption) (Nat.le_of_ble_eq_true rfl) (by kernel_rfl) ?_
  simp only [push_cast, Nat.reduceAdd, Nat.reduceSub, Nat.reduceMul, Nat.reduceLT, Nat.reduceLeDiff, Nat.reduceEqDiff, Nat.reduceMod, Nat.reduceDiv, Int.reduceAdd, Int.reduceSub, Int.reduceMul, Int.reduceLT, Int.reduceLE, Int.reduceEq, Int.reduceNeg, Int.reduceToNat, reduceIte, reduceCtorEq, Int.reduceBEq, Int.reduceBNe, h2', h3']
  refine loopO gI0_ok (pl := Tryz.pl106) Tryz.mix (X := Nat × X)
    (fun s => ([(0, .func (.yield l) #[] #[]), (1, .pointer (some ⟨b2, 0, none⟩)), (2, .pointer (some ⟨b3, 0, none⟩)), (4, .int .i64 (136 * (s.1 : Int)))], Hc ++ Ho s.2))
    (fun s => s.1 ≤ B ∧ I s.1 s.2) (fun s => B - s.1) (0, x0) ?_ ?_ (by kernel_rfl) ?_
  · exact ⟨Nat.zero_le _, h0⟩
  · simp only [push_cast, Nat.reduceAdd, Nat.reduceSub, Nat.reduceMul, Nat.reduceLT, Nat.reduceLeDiff, Nat.reduceEqDiff, Nat.reduceMod, Nat.reduceDiv, Int.reduceAdd, Int.reduceSub, Int.reduceMul, Int.reduceLT, Int.reduceLE, Int.reduceEq, Int.reduceNeg, Int.reduceToNat, reduceIte, reduceCtorEq, Int.reduceBEq, Int.reduceBNe, hm0, subH_self]
  · rintro ⟨k, z⟩ ⟨hk, hi⟩
    dsimp only at hk hi ⊢
    obtain ⟨p, hp⟩ : ∃ p, p = 136 * k := ⟨_, rfl⟩
    have ep : 136 * (k : Int) = (p : Int) := by omega
    by_cases hc : k < B
    · have k1 : (p : Int) < (T : Int) := by omega
      have k2 : p < T := by omega
      have k3 : (0 : Int) ≤ (p : Int) := by omega
      have k4 : (p : Int) ≤ (T : Int) := by omega
      have k5 : p ≤ T := by omega
      have k6 : (136 : Int) ≤ ((T - p : Nat) : Int) := by omega
      obtain ⟨q, hq⟩ : ∃ q, q = p + 136 := ⟨_, rfl⟩
      have kw : IntKind.i64.wrap ((p : Int) + 136) = (q : Int) := by
        rw [show (p : Int) + 136 = (q : Int) by omega]
        exact IntWalk.i64_in _ (by omega)
      have k7 : (q : Int) ≤ (c : Int) := by omega
      have k8 : q ≤ c := by omega
      have k9 : p ≤ q := by omega
      have k10 : (0 : Int) ≤ (q : Int) := by omega
      have k11 : ¬ ((T : Int) - (p : Int) < 136) := by omega
      have k13 : ¬ (q = p) := by omega
      have k14 : q - p = 136 := by omega
      simp only [push_cast, Nat.reduceAdd, Nat.reduceSub, Nat.reduceMul, Nat.reduceLT, Nat.reduceLeDiff, Nat.reduceEqDiff, Nat.reduceMod, Nat.reduceDiv, Int.reduceAdd, Int.reduceSub, Int.reduceMul, Int.reduceLT, Int.reduceLE, Int.reduceEq, Int.reduceNeg, Int.reduceToNat, reduceIte, reduceCtorEq, Int.reduceBEq, Int.reduceBNe, h2', h3', hc, ep, k1, k2, k3, k4, k5, k6, kw, k7, k8, k9, k10, k11, Int.le_refl, Nat.le_refl, Int.toNat_natCast, k13, k14]
      refine yl k z (.slice (some ⟨bq, p, none⟩) 136 136) _ hc (by rw [hp]) hi (fun x' hx' => ?_) (fun x' hx' => ?_)
      · simp only [push_cast, Nat.reduceAdd, Nat.reduceSub, Nat.reduceMul, Nat.reduceLT, Nat.reduceLeDiff, Nat.reduceEqDiff, Nat.reduceMod, Nat.reduceDiv, Int.reduceAdd, Int.reduceSub, Int.reduceMul, Int.reduceLT, Int.reduceLE, Int.reduceEq, Int.reduceNeg, Int.reduceToNat, reduceIte, reduceCtorEq, Int.reduceBEq, Int.reduceBNe, h2', h3', kw]
        exact ⟨(k + 1, x'), ⟨hc, hx'⟩, by dsimp only; omega, by dsimp only; rw [hq, hp]; congr 1, subH_self _, by simp only [hmarks]⟩
      · simp only [push_cast, Nat.reduceAdd, Nat.reduceSub, Nat.reduceMul, Nat.reduceLT, Nat.reduceLeDiff, Nat.reduceEqDiff, Nat.reduceMod, Nat.reduceDiv, Int.reduceAdd, Int.reduceSub, Int.reduceMul, Int.reduceLT, Int.reduceLE, Int.reduceEq, Int.reduceNeg, Int.reduceToNat, reduceIte, reduceCtorEq, Int.reduceBEq, Int.reduceBNe]
        exact yf x' (.inr hx')
    · obtain rfl : k = B := by omega
      have k1 : ¬ (p : Int) < (T : Int) := by omega
      have k2 : ¬ p < T := by omega
      simp only [push_cast, Nat.reduceAdd, Nat.reduceSub, Nat.reduceMul, Nat.reduceLT, Nat.reduceLeDiff, Nat.reduceEqDiff, Nat.reduceMod, Nat.reduceDiv, Int.reduceAdd, Int.reduceSub, Int.reduceMul, Int.reduceLT, Int.reduceLE, Int.reduceEq, Int.reduceNeg, Int.reduceToNat, reduceIte, reduceCtorEq, Int.reduceBEq, Int.reduceBNe, h2', h3', hc, ep, k1, k2]
      exact yf z (.inl (by rw [hvl]; exact hi))
theorem chunk_ok (p : Option Addr) (T c : Nat) : CallsV Tryz.prog 80 [.slice p T c, .int .i64 136] [] (fun v N => ∃ b2 b3, v = .func (.func 106) #[] #[.pointer (some ⟨b2, 0, none⟩), .pointer (some ⟨b3, 0, none⟩)] ∧ N = [⟨b3, 0, .cel 3, [.int .i64 136]⟩, ⟨b2, 0, .cel 101, [.slice p T c]⟩] ∧ ¬ b3 = b2) := by
  refine callsO gI0_ok Tryz.mix Tryz.pl80 Tryz.func80 rfl Tryz.ntmps80 Tryz.results80 rfl (by first | rfl | assumption) (Nat.le_of_ble_eq_true rfl) (by kernel_rfl) ?_
  simp only [push_cast, Nat.reduceAdd, Nat.reduceSub, Nat.reduceMul, Nat.reduceLT, Nat.reduceLeDiff, Nat.reduceEqDiff, Nat.reduceMod, Nat.reduceDiv, Int.reduceAdd, Int.reduceSub, Int.reduceMul, Int.reduceLT, Int.reduceLE, Int.reduceEq, Int.reduceNeg, Int.reduceToNat, reduceIte, reduceCtorEq, Int.reduceBEq, Int.reduceBNe]
  intro b2 b3 hb3
  try simp only [push_cast, Nat.reduceAdd, Nat.reduceSub, Nat.reduceMul, Nat.reduceLT, Nat.reduceLeDiff, Nat.reduceEqDiff, Nat.reduceMod, Nat.reduceDiv, Int.reduceAdd, Int.reduceSub, Int.reduceMul, Int.reduceLT, Int.reduceLE, Int.reduceEq, Int.reduceNeg, Int.reduceToNat, reduceIte, reduceCtorEq, Int.reduceBEq, Int.reduceBNe, hb3]
  exact ⟨[_, _], List.Sublist.refl _, b2, b3, rfl, rfl, hb3.1⟩
end Go.Proofs.YtpcjmmdgopihcaaGreatDoor
set_option linter.unusedSimpArgs false
set_option linter.unusedVariables false
namespace Go.Ev
noncomputable def abS (a : List Nat) (b : List UInt8) : Nat → List Nat
  | 0 => a
  | i + 1 => (abS a b i).set i (xorN (ln (abS a b i) i) (lowN ((b.drop (8 * i)).take 8)))
theorem low8_lt (b : List UInt8) : lowN (b.take 8) < 18446744073709551616 := by
  have h := lowN_lt (b.take 8)
  have h2 : 256 ^ (b.take 8).length ≤ 256 ^ 8 := Nat.pow_le_pow_right (by decide) (by rw [List.length_take]; omega)
  exact Nat.lt_of_lt_of_le h (Nat.le_trans h2 (by decide))
theorem abS_ln {a : List Nat} (h : Ln 25 a) (b : List UInt8) : ∀ i, Ln 25 (abS a b i)
  | 0 => h
  | i + 1 => (abS_ln h b i).set _ (xorN_lt ((abS_ln h b i).at _) (low8_lt _))
noncomputable def sumS (Q : List UInt8) : Nat → List Nat
  | 0 => List.replicate 25 0
  | j + 1 => permK (abS (sumS Q j) ((Q.drop (136 * j)).take 136) 17)
theorem sumS_ln (Q : List UInt8) : ∀ j, Ln 25 (sumS Q j)
  | 0 => Ln.zero 25
  | j + 1 => permK_ln (abS_ln (sumS_ln Q j) _ 17)
noncomputable def ouS (a : List Nat) : Nat → List UInt8
  | 0 => List.replicate 32 0
  | i + 1 => (ouS a i).set i (UInt8.ofNat (ln a (i / 8) / 256 ^ (i % 8) % 256))
theorem ouS_len (a : List Nat) : ∀ i, (ouS a i).length = 32
  | 0 => List.length_replicate ..
  | i + 1 => by
    show ((ouS a i).set i _).length = 32
    rw [List.length_set]; exact ouS_len a i
noncomputable def keccK : List UInt8 → List UInt8 := hid fun l => ouS (sumS (padK l) ((padK l).length / 136)) 32
theorem keccK_eq (l : List UInt8) : keccK l = ouS (sumS (padK l) ((padK l).length / 136)) 32 := by unfold keccK; rw [hid_eq]
theorem keccK_len (l : List UInt8) : (keccK l).length = 32 := by rw [keccK_eq]; exact ouS_len _ 32
theorem octet8 {x r : Nat} (hx : x < 18446744073709551616) (hr : r < 8) : IntKind.u8.wrap (shrI .u64 (x : Int) (8 * (r : Int))) = ((x / 256 ^ r % 256 : Nat) : Int) := by
  unfold shrI
  rw [show (8 * (r : Int)).toNat = 8 * r by omega, show min (8 * r) IntKind.u64.bits = 8 * r by show min (8 * r) 64 = 8 * r; omega, Int.fdiv_eq_ediv_of_nonneg _ (Int.pow_nonneg (by decide)), IntKind.wrap_u8]
  rw [show (2 : Int) ^ (8 * r) = ((256 ^ r : Nat) : Int) by rw [Int.natCast_pow, Int.pow_mul]; rfl]
  rw [Int.natCast_emod, Int.natCast_ediv]; rfl
theorem blk_part {Q : List UInt8} {p u : Nat} (hu : u + 8 ≤ 136) : (((Q.drop p).take 136).drop u).take 8 = (Q.drop (p + u)).take 8 := by
  rw [List.drop_take, List.take_take, List.drop_drop, Nat.min_eq_left (by omega)]
theorem byV_part {M : Hp} {bq o n k : Nat} {kd : Kind} {Q : List UInt8} (h : findE M bq = some ⟨bq, 0, kd, byteV Q⟩) (hn : o + n ≤ Q.length) : LiR byC 1 M ((Q.drop o).take n) (.slice (some ⟨bq, o, none⟩) n k) := by
  have hl : ((Q.drop o).take n).length = n := by rw [List.length_take, List.length_drop]; omega
  refine ⟨some ⟨bq, o, none⟩, k, by rw [hl], .inr ⟨bq, o, rfl, ?_⟩⟩
  unfold cellsAt
  rw [h]
  dsimp only
  rw [if_pos (Nat.zero_le _), hl, byV_flat]
  unfold subL
  rw [if_pos (by rw [byV_len]; omega), Nat.sub_zero, Nat.mul_one]
  unfold byteV
  rw [List.map_take, List.map_drop]
theorem takeI {P : Program} {g : FuncId} {args : List Value} (L : Hp) {M : Hp} {v : Value} {K : Value → Prop} (hc : ∀ M0, roM M0 → cellsAt M0 = cellsAt M → CallsV P g args M0 (Ret0 v)) (hL : freshN L M) (hk : K v) : TakeV P g args (L ++ M) K := TakeV.mk (derE_behind hL) (hc (roAll M) (roAll_ro M) (cellsAt_roAll M)) hk
end Go.Ev
namespace Go.Proofs.YtpcjmmdgopihcaaGreatDoor
open Go Go.Ev Go.Proofs
set_option maxRecDepth 100000
set_option maxHeartbeats 4000000
theorem perm_R {M : Hp} {a : List Nat} (h : Ln 25 a) (hk : KonR M) : ∀ M0, roM M0 → cellsAt M0 = cellsAt M → CallsV Tryz.prog 83 [.agg (lnC a).toArray] M0 (Ret0 (.agg (lnC (permK a)).toArray)) :=
  fun _ hr he => perm_ok h (hk.congr he.symm) hr.marks
def plSum : Plans := fun i => if i = 9 then [] else Tryz.pl56 i
attribute [push_cast] plSum
theorem sum_ok {M : Hp} (hk : KonR M) (hm : marksOf M = []) (l : List UInt8) (hl : l.length ≤ 1048576) : CallsV Tryz.prog 56 [.string ⟨l.toArray⟩] M (Ret0 (.tuple #[.string ⟨(keccK l).toArray⟩, .int .i64 0])) := by
  have hsz : (ByteArray.mk l.toArray).size = l.length := by simp [ByteArray.size]
  have hl1 : ¬ 1048576 < (l.length : Int) := by omega
  have hl2 : ¬ 1048576 < l.length := by omega
  obtain ⟨Q, hQ⟩ : ∃ Q, Q = padK l := ⟨_, rfl⟩
  have hq1 := padK_len l
  have hq2 := padK_mod l
  have hq3 : padJ_many l.length < 136 := Nat.mod_lt _ (by decide)
  have hpad := pad_ok l (by omega)
  rw [keccK_eq]
  rw [← hQ] at hq1 hq2 hpad ⊢
  obtain ⟨T, hT⟩ : ∃ T, T = Q.length := ⟨_, rfl⟩
  obtain ⟨B, hB⟩ : ∃ B, B = T / 136 := ⟨_, rfl⟩
  rw [← hT] at hq1 hq2 ⊢
  rw [← hB]
  have hTB : T = 136 * B := by omega
  have hsq : (ByteArray.mk Q.toArray).size = T := by rw [hT]; simp [ByteArray.size]
  refine callsO gI0_ok Tryz.mix plSum Tryz.func56 rfl Tryz.ntmps56 Tryz.results56 rfl (by first | rfl | assumption) (Nat.le_of_ble_eq_true rfl) (by kernel_rfl) ?_
  simp only [push_cast, Nat.reduceAdd, Nat.reduceSub, Nat.reduceMul, Nat.reduceLT, Nat.reduceLeDiff, Nat.reduceEqDiff, Nat.reduceMod, Nat.reduceDiv, Int.reduceAdd, Int.reduceSub, Int.reduceMul, Int.reduceLT, Int.reduceLE, Int.reduceEq, Int.reduceNeg, Int.reduceToNat, reduceIte, reduceCtorEq, Int.reduceBEq, Int.reduceBNe, hsz, hl1, hl2]
  intro b4 hb4
  try simp only [push_cast, Nat.reduceAdd, Nat.reduceSub, Nat.reduceMul, Nat.reduceLT, Nat.reduceLeDiff, Nat.reduceEqDiff, Nat.reduceMod, Nat.reduceDiv, Int.reduceAdd, Int.reduceSub, Int.reduceMul, Int.reduceLT, Int.reduceLE, Int.reduceEq, Int.reduceNeg, Int.reduceToNat, reduceIte, reduceCtorEq, Int.reduceBEq, Int.reduceBNe, hsz, hl1, hl2]
  refine hpad.pure trivial ?_
  simp only [push_cast, Nat.reduceAdd, Nat.reduceSub, Nat.reduceMul, Nat.reduceLT, Nat.reduceLeDiff, Nat.reduceEqDiff, Nat.reduceMod, Nat.reduceDiv, Int.reduceAdd, Int.reduceSub, Int.reduceMul, Int.reduceLT, Int.reduceLE, Int.reduceEq, Int.reduceNeg, Int.reduceToNat, reduceIte, reduceCtorEq, Int.reduceBEq, Int.reduceBNe, hsq]
  intro bq c0 hbq hc
  have hbq4 : fresh bq M := hbq.2.2
  refine (chunk_ok (some ⟨bq, 0, none⟩) T c0).use trivial ?_
  rintro _ _ ⟨b2, b3, rfl, rfl, hne⟩
  refine ⟨⟨trivial, trivial, trivial⟩, rfl, fun hfn => ?_⟩
  simp only [push_cast, Nat.reduceAdd, Nat.reduceSub, Nat.reduceMul, Nat.reduceLT, Nat.reduceLeDiff, Nat.reduceEqDiff, Nat.reduceMod, Nat.reduceDiv, Int.reduceAdd, Int.reduceSub, Int.reduceMul, Int.reduceLT, Int.reduceLE, Int.reduceEq, Int.reduceNeg, Int.reduceToNat, reduceIte, reduceCtorEq, Int.reduceBEq, Int.reduceBNe] at hfn
  try simp only [push_cast, Nat.reduceAdd, Nat.reduceSub, Nat.reduceMul, Nat.reduceLT, Nat.reduceLeDiff, Nat.reduceEqDiff, Nat.reduceMod, Nat.reduceDiv, Int.reduceAdd, Int.reduceSub, Int.reduceMul, Int.reduceLT, Int.reduceLE, Int.reduceEq, Int.reduceNeg, Int.reduceToNat, reduceIte, reduceCtorEq, Int.reduceBEq, Int.reduceBNe, hbq, hfn]
  have hne2 : ¬ b2 = b3 := fun h => hne h.symm
  refine rangeO gI0_ok (pl := plSum) Tryz.mix (Hc := [⟨b3, 0, .cel 3, [.int .i64 136]⟩, ⟨b2, 0, .cel 101, [.slice (some ⟨bq, 0, none⟩) T c0]⟩]) (Hm := []) (chunk1_ok (b2 := b2) (b3 := b3) (bq := bq) (k2 := .cel 101) (k3 := .cel 3) hTB hc (by omega) rfl (by simp [findE, hne2]) (by simp [findE])) rfl
    (X := List Nat) (fun a => ⟨b4, 0, .cel 114, lnC a⟩ :: ⟨bq, 0, .ro, byteV Q⟩ :: M)
    (fun k a => a = sumS Q k) (fun _ _ => False) (List.replicate 25 0)
    rfl ?_ ?_ rfl (by simp) (fun s => ?_) (fun s u e he => ?_) chkV_one (by kernel_rfl) (by kernel_rfl) (fun _ _ h => h.elim) ?_ ?_ (fun _ _ _ _ h => h.elim)
  · simp only [push_cast, Nat.reduceAdd, Nat.reduceSub, Nat.reduceMul, Nat.reduceLT, Nat.reduceLeDiff, Nat.reduceEqDiff, Nat.reduceMod, Nat.reduceDiv, Int.reduceAdd, Int.reduceSub, Int.reduceMul, Int.reduceLT, Int.reduceLE, Int.reduceEq, Int.reduceNeg, Int.reduceToNat, reduceIte, reduceCtorEq, Int.reduceBEq, Int.reduceBNe, hbq, hfn, hne, hne2]
    exact rfl
  · simp [marksOf, hm]
  · simp [marksOf, hm]
  · rcases List.mem_cons.1 he with rfl | he
    · exact .inl trivial
    · exact .inr (List.mem_cons_of_mem _ he)
  · rintro lo k a args hk2 ha
    obtain ⟨hk1, rfl⟩ := chkV_at hk2
    have hal : Ln 25 a := ha ▸ sumS_ln Q k
    have hst : sumS Q (k + 1) = permK (abS a ((Q.drop (136 * k)).take 136) 17) := by rw [ha]; rfl
    obtain ⟨p, hp⟩ : ∃ p, p = 136 * k := ⟨_, rfl⟩
    rw [← hp] at hst ⊢
    obtain ⟨bl, hbl⟩ : ∃ bl, bl = (Q.drop p).take 136 := ⟨_, rfl⟩
    rw [← hbl] at hst
    have hpT : p + 136 ≤ Q.length := by omega
    simp only [push_cast, Nat.reduceAdd, Nat.reduceSub, Nat.reduceMul, Nat.reduceLT, Nat.reduceLeDiff, Nat.reduceEqDiff, Nat.reduceMod, Nat.reduceDiv, Int.reduceAdd, Int.reduceSub, Int.reduceMul, Int.reduceLT, Int.reduceLE, Int.reduceEq, Int.reduceNeg, Int.reduceToNat, reduceIte, reduceCtorEq, Int.reduceBEq, Int.reduceBNe, hbq]
    refine ⟨hm, ⟨List.mem_cons_of_mem _ (List.mem_cons_self ..), roSub_of fun e he => .inr (List.mem_cons_of_mem _ (List.mem_cons_of_mem _ he))⟩, ?_⟩
    refine loopO gI0_ok (pl := plSum) Tryz.mix (X := Nat)
      (fun i => ([(4, .pointer (some ⟨b4, 0, none⟩)), (5, .slice (some ⟨bq, p, none⟩) 136 136), (17, .int .i64 i)], ⟨b4, 0, .cel 114, lnC (abS a bl i)⟩ :: ⟨bq, 0, .ro, byteV Q⟩ :: M))
      (fun i => i ≤ 17) (fun i => 17 - i) 0 ?_ ?_ (by kernel_rfl) ?_
    · exact Nat.zero_le _
    · simp only [push_cast, Nat.reduceAdd, Nat.reduceSub, Nat.reduceMul, Nat.reduceLT, Nat.reduceLeDiff, Nat.reduceEqDiff, Nat.reduceMod, Nat.reduceDiv, Int.reduceAdd, Int.reduceSub, Int.reduceMul, Int.reduceLT, Int.reduceLE, Int.reduceEq, Int.reduceNeg, Int.reduceToNat, reduceIte, reduceCtorEq, Int.reduceBEq, Int.reduceBNe, hbq]
      exact rfl
    · intro i hi
      have hA := abS_ln hal bl i
      have hB := abS_ln hal bl 17
      by_cases hc17 : i < 17
      · have hsi : abS a bl (i + 1) = (abS a bl i).set i (xorN (ln (abS a bl i) i) (lowN ((bl.drop (8 * i)).take 8))) := rfl
        obtain ⟨A, hAe⟩ : ∃ A, A = abS a bl i := ⟨_, rfl⟩
        rw [← hAe] at hA hsi ⊢
        obtain ⟨u, hu⟩ : ∃ u, u = 8 * i := ⟨_, rfl⟩
        obtain ⟨w, hw⟩ : ∃ w, w = 8 * (i + 1) := ⟨_, rfl⟩
        have e8 := blk_part (Q := Q) (p := p) (u := u) (by omega)
        rw [← hbl] at e8
        rw [← hu, e8] at hsi
        have eu : IntKind.i64.wrap (8 * (i : Int)) = (u : Int) := by
          rw [show 8 * (i : Int) = (u : Int) by omega]; exact IntWalk.i64_in _ (by omega)
        have ew : IntKind.i64.wrap (8 * ((i : Int) + 1)) = (w : Int) := by
          rw [show 8 * ((i : Int) + 1) = (w : Int) by omega]; exact IntWalk.i64_in _ (by omega)
        have i1 : (i : Int) < 17 := by omega
        have i0 : (0 : Int) ≤ i := by omega
        have i25 : (i : Int) < 25 := by omega
        have i26 : i + 1 ≤ 25 := by omega
        have w0 : (0 : Int) ≤ w := by omega
        have w1 : (w : Int) ≤ 136 := by omega
        have w2 : w ≤ 136 := by omega
        have u0 : (0 : Int) ≤ u := by omega
        have u1 : (u : Int) ≤ w := by omega
        have u2 : u ≤ w := by omega
        have u3 : ¬ (136 = u) := by omega
        have u4 : w - u = 8 := by omega
        have lA := hA.cl
        have a1 := lnC_at (a := A) (i := i) (by rw [hA.len]; omega)
        simp only [push_cast, Nat.reduceAdd, Nat.reduceSub, Nat.reduceMul, Nat.reduceLT, Nat.reduceLeDiff, Nat.reduceEqDiff, Nat.reduceMod, Nat.reduceDiv, Int.reduceAdd, Int.reduceSub, Int.reduceMul, Int.reduceLT, Int.reduceLE, Int.reduceEq, Int.reduceNeg, Int.reduceToNat, reduceIte, reduceCtorEq, Int.reduceBEq, Int.reduceBNe, hbq, hc17, i1]
        refine drawO gI0_ok Tryz.mix (Tryz.pl56 9) (by kernel_rfl) ?_
        simp only [push_cast, Nat.reduceAdd, Nat.reduceSub, Nat.reduceMul, Nat.reduceLT, Nat.reduceLeDiff, Nat.reduceEqDiff, Nat.reduceMod, Nat.reduceDiv, Int.reduceAdd, Int.reduceSub, Int.reduceMul, Int.reduceLT, Int.reduceLE, Int.reduceEq, Int.reduceNeg, Int.reduceToNat, reduceIte, reduceCtorEq, Int.reduceBEq, Int.reduceBNe, hbq, hc17, i0, i1, i25, i26, lA, a1, eu, ew, wrap_i64' (show -9223372036854775808 ≤ (i : Int) + 1 ∧ (i : Int) + 1 ≤ 9223372036854775807 by omega), w0, w1, w2, u0, u1, u2, u3, u4, Int.toNat_natCast]
        refine takeI [_] (low_R (byV_part (kd := .ro) (M := ⟨bq, 0, .ro, byteV Q⟩ :: M) (Q := Q) (o := p + u) (n := 8) (k := 136 - u) (by simp [findE]) (by omega)) (by rw [List.length_take]; omega)) ⟨⟨hbq.2.1, hbq.1, hb4⟩, trivial⟩ ?_
        have hlo := low8_lt (Q.drop (p + u))
        obtain ⟨x, hx⟩ : ∃ x, x = lowN ((Q.drop (p + u)).take 8) := ⟨_, rfl⟩
        rw [← hx] at hlo hsi ⊢
        have a3 := xor_u64 (hA.at i) hlo
        have a4 := lnC_set (a := A) (i := i) (x := xorN (ln A i) x) (by rw [hA.len]; omega)
        simp only [push_cast, Nat.reduceAdd, Nat.reduceSub, Nat.reduceMul, Nat.reduceLT, Nat.reduceLeDiff, Nat.reduceEqDiff, Nat.reduceMod, Nat.reduceDiv, Int.reduceAdd, Int.reduceSub, Int.reduceMul, Int.reduceLT, Int.reduceLE, Int.reduceEq, Int.reduceNeg, Int.reduceToNat, reduceIte, reduceCtorEq, Int.reduceBEq, Int.reduceBNe, hbq, hc17, i0, i1, i25, i26, lA, a3, a4, wrap_i64' (show -9223372036854775808 ≤ (i : Int) + 1 ∧ (i : Int) + 1 ≤ 9223372036854775807 by omega)]
        exact ⟨i + 1, hc17, by omega, rfl, by rw [hsi]⟩
      · obtain rfl : i = 17 := by omega
        have i1 : ¬ ((17 : Nat) : Int) < 17 := by omega
        simp only [push_cast, Nat.reduceAdd, Nat.reduceSub, Nat.reduceMul, Nat.reduceLT, Nat.reduceLeDiff, Nat.reduceEqDiff, Nat.reduceMod, Nat.reduceDiv, Int.reduceAdd, Int.reduceSub, Int.reduceMul, Int.reduceLT, Int.reduceLE, Int.reduceEq, Int.reduceNeg, Int.reduceToNat, reduceIte, reduceCtorEq, Int.reduceBEq, Int.reduceBNe, hbq, hc17, i1, hA.cl, lnC_take hA]
        refine useP [_, _] (perm_R hB hk) ⟨hb4, hbq4, trivial⟩ ?_
        rw [← hst]
        have hS := sumS_ln Q (k + 1)
        simp only [push_cast, Nat.reduceAdd, Nat.reduceSub, Nat.reduceMul, Nat.reduceLT, Nat.reduceLeDiff, Nat.reduceEqDiff, Nat.reduceMod, Nat.reduceDiv, Int.reduceAdd, Int.reduceSub, Int.reduceMul, Int.reduceLT, Int.reduceLE, Int.reduceEq, Int.reduceNeg, Int.reduceToNat, reduceIte, reduceCtorEq, Int.reduceBEq, Int.reduceBNe, hbq, hB.cl, hS.cl, lnC_one, lnC_drop hB, List.append_nil]
        exact ⟨_, rfl, rfl⟩
  · intro D a hD ha
    simp only [push_cast, Nat.reduceAdd, Nat.reduceSub, Nat.reduceMul, Nat.reduceLT, Nat.reduceLeDiff, Nat.reduceEqDiff, Nat.reduceMod, Nat.reduceDiv, Int.reduceAdd, Int.reduceSub, Int.reduceMul, Int.reduceLT, Int.reduceLE, Int.reduceEq, Int.reduceNeg, Int.reduceToNat, reduceIte, reduceCtorEq, Int.reduceBEq, Int.reduceBNe] at hD
    have ha : a = sumS Q B := by rw [← chkV_len bq B]; exact ha
    have hal : Ln 25 a := ha ▸ sumS_ln Q B
    rw [← ha]
    simp only [push_cast, Nat.reduceAdd, Nat.reduceSub, Nat.reduceMul, Nat.reduceLT, Nat.reduceLeDiff, Nat.reduceEqDiff, Nat.reduceMod, Nat.reduceDiv, Int.reduceAdd, Int.reduceSub, Int.reduceMul, Int.reduceLT, Int.reduceLE, Int.reduceEq, Int.reduceNeg, Int.reduceToNat, reduceIte, reduceCtorEq, Int.reduceBEq, Int.reduceBNe, hbq, hD]
    refine ⟨by unfold two47; decide, ?_⟩
    intro b7 hb7
    refine loopO gI0_ok (pl := plSum) Tryz.mix (X := Nat)
      (fun i => ([(4, .pointer (some ⟨b4, 0, none⟩)), (7, .slice (some ⟨b7, 0, none⟩) 32 32), (38, .int .i64 32), (39, .int .i64 i)], ⟨b7, 0, .vec 5 1 32, byteV (ouS a i)⟩ :: ⟨D, 0, .obj (.deferred (some [])), []⟩ :: ⟨b4, 0, .cel 114, lnC a⟩ :: ⟨bq, 0, .ro, byteV Q⟩ :: M))
      (fun i => i ≤ 32) (fun i => 32 - i) 0 ?_ ?_ (by kernel_rfl) ?_
    · exact Nat.zero_le _
    · simp only [push_cast, Nat.reduceAdd, Nat.reduceSub, Nat.reduceMul, Nat.reduceLT, Nat.reduceLeDiff, Nat.reduceEqDiff, Nat.reduceMod, Nat.reduceDiv, Int.reduceAdd, Int.reduceSub, Int.reduceMul, Int.reduceLT, Int.reduceLE, Int.reduceEq, Int.reduceNeg, Int.reduceToNat, reduceIte, reduceCtorEq, Int.reduceBEq, Int.reduceBNe, hbq, hD, hb7]
      exact rfl
    · intro i hi
      have hol := ouS_len a i
      by_cases hc32 : i < 32
      · have hsi : ouS a (i + 1) = (ouS a i).set i (UInt8.ofNat (ln a (i / 8) / 256 ^ (i % 8) % 256)) := rfl
        obtain ⟨o, ho⟩ : ∃ o, o = ouS a i := ⟨_, rfl⟩
        rw [← ho] at hol hsi ⊢
        obtain ⟨q, hq⟩ : ∃ q, q = i / 8 := ⟨_, rfl⟩
        obtain ⟨r, hr⟩ : ∃ r, r = i % 8 := ⟨_, rfl⟩
        rw [← hq, ← hr] at hsi
        have r8 : r < 8 := by omega
        have o8 := octet8 (hal.at q) r8
        obtain ⟨v, hv⟩ : ∃ v, v = ln a q / 256 ^ r % 256 := ⟨_, rfl⟩
        rw [← hv] at o8 hsi
        have hv2 : (UInt8.ofNat v).toNat = v := by
          have : v < 256 := by rw [hv]; exact Nat.mod_lt _ (by decide)
          simp [Nat.mod_eq_of_lt this]
        have et : (i : Int).tmod 8 = (r : Int) := by rw [Int.tmod_eq_emod_of_nonneg (by omega)]; omega
        have eq2 : (i : Int).tdiv 8 = (q : Int) := by rw [Int.tdiv_eq_ediv_of_nonneg (by omega)]; omega
        have i1 : (i : Int) < 32 := by omega
        have i0 : (0 : Int) ≤ i := by omega
        have i3 : i + 1 ≤ 32 := by omega
        have q0 : (0 : Int) ≤ q := by omega
        have q1 : (q : Int) < 25 := by omega
        have q2 : q + 1 ≤ 25 := by omega
        have r0 : ¬ (8 * (r : Int) < 0) := by omega
        have lo : (byteV o).length = 32 := by rw [byV_len, hol]
        have a1 := lnC_at (a := a) (i := q) (by rw [hal.len]; omega)
        have a2 := byV_set (a := o) (i := i) (x := UInt8.ofNat v) (by rw [hol]; exact hc32)
        rw [hv2, ← hsi] at a2
        simp only [push_cast, Nat.reduceAdd, Nat.reduceSub, Nat.reduceMul, Nat.reduceLT, Nat.reduceLeDiff, Nat.reduceEqDiff, Nat.reduceMod, Nat.reduceDiv, Int.reduceAdd, Int.reduceSub, Int.reduceMul, Int.reduceLT, Int.reduceLE, Int.reduceEq, Int.reduceNeg, Int.reduceToNat, reduceIte, reduceCtorEq, Int.reduceBEq, Int.reduceBNe, hbq, hD, hb7, hc32, i0, i1, i3, q0, q1, q2, et, eq2, wrap_i64' (show -9223372036854775808 ≤ (q : Int) ∧ (q : Int) ≤ 9223372036854775807 by omega), wrap_i64' (show -9223372036854775808 ≤ 8 * (r : Int) ∧ 8 * (r : Int) ≤ 9223372036854775807 by omega), r0, hal.cl, a1, o8, lo, a2, wrap_i64' (show -9223372036854775808 ≤ (i : Int) + 1 ∧ (i : Int) + 1 ≤ 9223372036854775807 by omega)]
        exact ⟨i + 1, hc32, by omega, rfl, rfl⟩
      · obtain rfl : i = 32 := by omega
        have i1 : ¬ ((32 : Nat) : Int) < 32 := by omega
        have lo : (byteV (ouS a 32)).length = 32 := by rw [byV_len, hol]
        simp only [push_cast, Nat.reduceAdd, Nat.reduceSub, Nat.reduceMul, Nat.reduceLT, Nat.reduceLeDiff, Nat.reduceEqDiff, Nat.reduceMod, Nat.reduceDiv, Int.reduceAdd, Int.reduceSub, Int.reduceMul, Int.reduceLT, Int.reduceLE, Int.reduceEq, Int.reduceNeg, Int.reduceToNat, reduceIte, reduceCtorEq, Int.reduceBEq, Int.reduceBNe, hbq, hD, hb7, hc32, i1, lo, (List.take_of_length_le (Nat.le_of_eq lo) : List.take 32 (byteV (ouS a 32)) = _), bytesOf_byteV]
end Go.Proofs.YtpcjmmdgopihcaaGreatDoor
set_option linter.unusedSimpArgs false
set_option linter.unusedVariables false
namespace Go.Ev
def rot2 (x k : Nat) : Nat := ((x * 2 ^ k) % 18446744073709551616) ||| (x / 2 ^ (64 - k))
def thC2 (a : List Nat) : Nat → List Nat
  | 0 => List.replicate 5 0
  | k + 1 => let c := thC2 a k; c.set (k % 5) (ln c (k % 5) ^^^ ln a k)
def thA2 (a c : List Nat) : Nat → List Nat
  | 0 => a
  | k + 1 => let z := thA2 a c k; z.set k (ln z k ^^^ (ln c ((k % 5 + 4) % 5) ^^^ rot2 (ln c ((k % 5 + 1) % 5)) 1))
def tnS2 (a : List Nat) : Nat → Nat × Nat × List Nat
  | 0 => (1, 0, (List.replicate 25 0).set 0 (ln a 0))
  | t + 1 => let s := tnS2 a t; (s.2.1, (2 * s.1 + 3 * s.2.1) % 5, s.2.2.set (5 * ((2 * s.1 + 3 * s.2.1) % 5) + s.2.1) (rot2 (ln a (5 * s.2.1 + s.1)) ((t + 1) * (t + 2) / 2 % 64)))
def chS2 (a : List Nat) : Nat → List Nat
  | 0 => List.replicate 25 0
  | k + 1 => (chS2 a k).set k (ln a k ^^^ (ln a (5 * (k / 5) + (k % 5 + 2) % 5) &&& (18446744073709551615 - ln a (5 * (k / 5) + (k % 5 + 1) % 5))))
def rd2 (a : List Nat) (c : Nat) : List Nat := let b := chS2 (tnS2 (let z := thC2 a 25; thA2 a z 25) 24).2.2 25; b.set 0 (ln b 0 ^^^ c)
def pmS2 (a : List Nat) : Nat → List Nat
  | 0 => a
  | k + 1 => rd2 (pmS2 a k) (ln consK k)
def abS2 (a : List Nat) (b : List UInt8) : Nat → List Nat
  | 0 => a
  | i + 1 => let z := abS2 a b i; z.set i (ln z i ^^^ lowN ((b.drop (8 * i)).take 8))
theorem thC2_eq (a : List Nat) : ∀ k, thC a k = thC2 a k
  | 0 => rfl
  | k + 1 => by rw [thC, thC2, thC2_eq a k, xorN_eq]
theorem thA2_eq (a c : List Nat) : ∀ k, thA a c k = thA2 a c k
  | 0 => rfl
  | k + 1 => by rw [thA, thA2, thA2_eq a c k, xorN_eq, xorN_eq, rot_eq]; rfl
theorem tnS2_eq (a : List Nat) : ∀ k, tnS a k = tnS2 a k
  | 0 => rfl
  | k + 1 => by rw [tnS, tnS2, tnS2_eq a k, rot_eq]; rfl
theorem chS2_eq (a : List Nat) : ∀ k, chS a k = chS2 a k
  | 0 => rfl
  | k + 1 => by rw [chS, chS2, chS2_eq a k, xorN_eq, anN_eq]
theorem pmS2_eq (a : List Nat) : ∀ k, pmS a k = pmS2 a k
  | 0 => rfl
  | k + 1 => by rw [pmS, pmS2, pmS2_eq a k, chiK_eq, turnK_eq, thetaK_eq, xorN_eq, chS2_eq, tnS2_eq, thA2_eq, thC2_eq]; rfl
theorem abS2_eq (a : List Nat) (b : List UInt8) : ∀ k, abS a b k = abS2 a b k
  | 0 => rfl
  | k + 1 => by rw [abS, abS2, abS2_eq a b k, xorN_eq]
theorem keccK_one (l : List UInt8) (h : l.length = 1) : keccK l = ouS (pmS2 (abS2 (List.replicate 25 0) ((padK l).take 136) 17) 24) 32 := by
  have hl : (padK l).length = 136 := by rw [padK_len, h]; rfl
  rw [keccK_eq, hl, show 136 / 136 = 1 from rfl, sumS, sumS, permK_eq, pmS2_eq, abS2_eq, Nat.mul_zero, List.drop_zero]
def ou2 (a : List Nat) : Nat → List UInt8
  | 0 => List.replicate 32 0
  | i + 1 => (ou2 a i).set i (UInt8.ofNat (ln a (i / 8) / 256 ^ (i % 8) % 256))
theorem ou2_eq (a : List Nat) : ∀ k, ouS a k = ou2 a k
  | 0 => rfl
  | k + 1 => by rw [ouS, ou2, ou2_eq a k]
def pad2 (l : List UInt8) : List UInt8 := orL (padJ l (padJ_many l.length))
theorem kecc_c0 : (keccK [192]).take 2 = [29, 204] := by
  rw [keccK_one _ rfl, ou2_eq, show padK [192] = pad2 [192] from rfl]
  decide +kernel
end Go.Ev
set_option linter.unusedSimpArgs false
set_option linter.unusedVariables false
namespace Go.Ev
end Go.Ev
namespace Go.Proofs.YtpcjmmdgopihcaaGreatDoor
open Go Go.Ev Go.Proofs
set_option maxRecDepth 100000
set_option maxHeartbeats 4000000
theorem pk1 : ptrOk Tryz.prog 150 193 152 2 = true := by kernel_rfl
theorem pk2 : ptrOk Tryz.prog 193 150 152 2 = true := by kernel_rfl
theorem pk3 : (Tryz.prog.info? 152).isSome = true := by kernel_rfl
theorem pk4 : usOk Tryz.prog 181 5 = true := by kernel_rfl
attribute [push_cast] pk1 pk2 pk3 pk4
def plStr : Plans := fun i => if i = 1 then [(0, 0), (1, 0), (2, 0), (3, 0), (5, 0), (6, 0), (7, 0), (8, 0), (9, 0), (4, 2), (10, 1), (11, 0)] else []
attribute [push_cast] plStr
end Go.Proofs.YtpcjmmdgopihcaaGreatDoor
