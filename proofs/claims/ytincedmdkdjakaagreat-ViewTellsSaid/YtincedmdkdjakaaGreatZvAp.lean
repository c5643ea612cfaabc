/- Texts of this claim, merged by program: Uq Ur Us Ut Uu. -/
import Derived.Test.YtincedmdkdjakaaGreatZvAo
set_option linter.unusedSimpArgs false
set_option linter.unusedVariables false
namespace Go.Ev
def Ce.z (k : Ky) : Ce := ⟨k, W.zero, 0, .empty, W.zero⟩
theorem Ce.zL (k : Ky) : k.cells ++ [.int .u64 0, .int .u64 0, .int .u64 0, .int .u64 0, .int .i64 0, .string .empty, .int .u64 0, .int .u64 0, .int .u64 0, .int .u64 0] = (Ce.z k).cells := rfl
attribute [push_cast] Ce.zL
def Ky.zero : Ky := ⟨Ad.zero, false, W.zero⟩
def Ce.sv (k : Ky) (w : W) : Ce := ⟨k, W.zero, 0, .empty, w⟩
def Ce.ac (k : Ky) (b : W) (n : Int) (c : ByteArray) : Ce := ⟨k, b, n, c, W.zero⟩
theorem Ce.z_set4 (k : Ky) (w : W) : List.take 31 (Ce.z k).cells ++ (w.cells ++ List.drop 35 (Ce.z k).cells) = (Ce.sv k w).cells := by
  rw [(Ce.z k).drop35, List.append_nil]
  have e : (Ce.z k).cells = (k.cells ++ [.int .u64 0, .int .u64 0, .int .u64 0, .int .u64 0, .int .i64 0, .string .empty]) ++ W.zero.cells := by
    rw [List.append_assoc]; rfl
  rw [e, List.take_left' (by rw [List.length_append, k.len]; rfl), List.append_assoc]
  rfl
theorem Ce.setBal (c : Ce) (w : W) : List.take 25 c.cells ++ (w.cells ++ List.drop 29 c.cells) = (⟨c.key, w, c.nonce, c.code, c.val⟩ : Ce).cells := by
  rw [c.take25, c.dropk 4]; rfl
theorem Ce.setNon (c : Ce) (n : Int) : List.take 29 c.cells ++ (.int .i64 n :: List.drop 30 c.cells) = (⟨c.key, c.bal, n, c.code, c.val⟩ : Ce).cells := by
  rw [c.dropk 5, show c.cells = (c.key.cells ++ c.bal.cells) ++ (.int .i64 c.nonce :: .string c.code :: c.val.cells) from by rw [List.append_assoc]; rfl, List.take_left' (by rw [List.length_append, c.key.len]; rfl), List.append_assoc]; rfl
theorem Ce.setCod (c : Ce) (s : ByteArray) : List.take 30 c.cells ++ (.string s :: List.drop 31 c.cells) = (⟨c.key, c.bal, c.nonce, s, c.val⟩ : Ce).cells := by
  rw [c.dropk 6, show c.cells = (c.key.cells ++ (c.bal.cells ++ [.int .i64 c.nonce])) ++ (.string c.code :: c.val.cells) from by rw [List.append_assoc, List.append_assoc]; rfl, List.take_left' (by rw [List.length_append, List.length_append, c.key.len]; rfl), List.append_assoc, List.append_assoc]; rfl
theorem useVL {P : Program} {g : FuncId} {args : List Value} (L : Hp) {M : Hp} {Q : Value → Prop} {K' : Value → Hp → Prop} (hc : ∀ M0, roM M0 → cellsAt M0 = cellsAt M → CallsV P g args M0 (fun u N => Q u ∧ N = [])) (hL : freshN L M) (hk : ∀ u, Q u → K' u (L ++ M)) : CallsV P g args (L ++ M) K' :=
  (hc (roAll M) (roAll_ro M) (cellsAt_roAll M)).use (derE_behind hL) (by
    rintro u N ⟨hq, rfl⟩
    exact ⟨trivial, rfl, fun _ => hk u hq⟩)
theorem Ad.k1 (a : Ad) (l : List Value) : List.take 20 (a.cells ++ l) = a.cells := List.take_left' a.len
theorem Ad.k2 (a : Ad) (l : List Value) : List.drop 21 (a.cells ++ l) = List.drop 1 l := by rw [List.drop_append, List.drop_of_length_le (by rw [a.len]; decide), a.len]; rfl
theorem Ad.k3 (a : Ad) (l : List Value) : List.take 21 (a.cells ++ l) = a.cells ++ List.take 1 l := by rw [List.take_append, List.take_of_length_le (by rw [a.len]; decide), a.len]
theorem Ad.k4 (a : Ad) (l : List Value) : List.drop 25 (a.cells ++ l) = List.drop 5 l := by rw [List.drop_append, List.drop_of_length_le (by rw [a.len]; decide), a.len]; rfl
theorem Ad.k5 (a : Ad) (l : List Value) : List.drop 24 (a.cells ++ l) = List.drop 4 l := by rw [List.drop_append, List.drop_of_length_le (by rw [a.len]; decide), a.len]; rfl
theorem Ad.k6 (a : Ad) (b : W) (l : List Value) : List.take 24 (a.cells ++ (b.cells ++ l)) = a.cells ++ b.cells := by rw [← List.append_assoc]; exact List.take_left' (by rw [List.length_append, a.len]; rfl)
theorem Ad.k7 (a : Ad) (b : W) (l : List Value) : List.drop 25 (a.cells ++ (b.cells ++ l)) = List.drop 1 l := by rw [a.k4]; rfl
theorem Ad.k8 (a : Ad) (b : W) (l : List Value) : List.take 25 (a.cells ++ (b.cells ++ l)) = a.cells ++ (b.cells ++ List.take 1 l) := by rw [List.take_append, List.take_of_length_le (by rw [a.len]; decide), a.len]; rfl
theorem Ad.k9 (a : Ad) (b : W) (l : List Value) : List.drop 26 (a.cells ++ (b.cells ++ l)) = List.drop 2 l := by rw [List.drop_append, List.drop_of_length_le (by rw [a.len]; decide), a.len]; rfl
theorem Ac.oL (a : Ad) (b : W) (n : Int) (c : ByteArray) (sv : Value) (l : List Sl) : a.cells ++ (b.cells ++ [.int .i64 n, .string c, sv]) = (⟨a, b, n, c, l⟩ : Ac).cells sv := rfl
theorem Ky.oT (a : Ad) (q : W) : a.cells ++ .bool true :: q.cells = (⟨a, true, q⟩ : Ky).cells := rfl
theorem Ky.oF (a : Ad) : a.cells ++ [.bool false, .int .u64 0, .int .u64 0, .int .u64 0, .int .u64 0] = (⟨a, false, W.zero⟩ : Ky).cells := rfl
theorem readV_bad {v : Vi} {k : Ky} (h : ¬ RiV v) : readV v k = (Ce.z k, 1) := by unfold readV; rw [if_neg h]; rfl
theorem readV_not {v : Vi} {k : Ky} (h : RiV v) (hk : ¬ v.rd k) : readV v k = (Ce.z k, 30) := h.read0 hk
theorem place_is {L : List Ce} {k : Ky} {i : Nat} {c : Ce} (hs : L.Pairwise fun x y => x.key.lt y.key) (hc : L[i]? = some c) (hk : c.key = k) : cellOf L k = some c := by
  rw [← hk]; exact cellOf_mem hs (List.mem_of_getElem? hc)
theorem place_not {L : List Ce} {k : Ky} {i : Nat} (hs : L.Pairwise fun x y => x.key.lt y.key) (hp : PlaceC L k i) (hn : ¬ ∃ x, L[i]? = some x ∧ x.key = k) : cellOf L k = none := by
  cases h : cellOf L k with
  | none => rfl
  | some c =>
    obtain ⟨h1, h2⟩ := cellOf_some h
    obtain ⟨j, hj⟩ := List.getElem?_of_mem h1
    exfalso
    rcases Nat.lt_trichotomy j i with h3 | h3 | h3
    · exact Ky.lt_ne (hp.lo j c h3 hj) h2
    · subst h3; exact hn ⟨c, hj, h2⟩
    · obtain ⟨y, hy⟩ : ∃ y, L[i]? = some y := ⟨L[i]'(by have := (List.getElem?_eq_some_iff.1 hj).1; omega), List.getElem?_eq_getElem (by have := (List.getElem?_eq_some_iff.1 hj).1; omega)⟩
      exact hp.hi i y (Nat.le_refl _) hy (h2 ▸ pw_at hs h3 hy hj)
theorem readV_is {v : Vi} {k : Ky} {c : Ce} (h : RiV v) (hk : v.rd k) (hc : cellOf v.cells k = some c) : readV v k = (c, 0) := by rw [h.read1 hk, hc]; rfl
theorem readV_none {v : Vi} {k : Ky} (h : RiV v) (hk : v.rd k) (hc : cellOf v.cells k = none) : readV v k = (readB v.base k, 0) := by rw [h.read1 hk, hc]; rfl
end Go.Ev
namespace Go.Proofs.YtincedmdkdjakaaGreat
open Go Go.Ev Go.Proofs
set_option maxRecDepth 100000
set_option maxHeartbeats 4000000
def plRe : Plans := fun i => if i = 1 then [(0, 9)] else if i = 2 then [(0, 9)] else if i = 6 then [(0, 9)] else if i = 9 then [(0, 9)] else if i = 10 then [(0, 9)] else if i = 13 then [] else Tryz.pl51 i
attribute [push_cast] plRe
theorem vread_ok {M : Hp} {x : Vi} {v : Value} {k : Ky} (hv : ViR x v M) (hm : roM M) (hb : x.Fit) : CallsV Tryz.prog 51 [v, k.v] M (Ret0 (.tuple #[(readV x k).1.v, .int .i64 (readV x k).2])) := by
  have hm0 := hm.marks
  have hv0 := hv
  obtain ⟨n1, n2, n3, n4, n5⟩ := hb
  obtain ⟨vb, vr, vw, vc, rfl, h1, h2, h3, h4⟩ := hv
  have hse : SeR x.reads x.writes (.agg #[vr, vw]) M := ⟨vr, vw, rfl, h2, h3⟩
  obtain ⟨pb, kb, rfl⟩ := h1.slice
  obtain ⟨pr, kr, rfl⟩ := LiR.slice h2
  obtain ⟨pw, kw, rfl⟩ := LiR.slice h3
  obtain ⟨pc, kc, rfl, hla⟩ := LiR.openE h4
  refine callsO gU3_ok Tryz.mix plRe Tryz.func51 rfl Tryz.ntmps51 Tryz.results51 rfl (by first | rfl | assumption) (Nat.le_of_ble_eq_true rfl) (by kernel_rfl) ?_
  simp only [push_cast, seval, reduceCtorEq]
  intro b2 hb2 b3 hb3 b4 hb4
  refine regO gU3_ok ?_
  simp only [push_cast, seval, reduceCtorEq, hb3, hb4]
  intro b6 hb6
  refine regO gU3_ok ?_
  simp only [push_cast, seval, reduceCtorEq, hb3, hb4, hb6]
  have f6 : fresh b6 M := hb6.2.2.2.2.2.2
  have f4 : fresh b4 M := hb4.2.2.2.2
  have f3 : fresh b3 M := hb3.2.2
  have hL : ∀ e6 e4 e3 e2 : Ent, e6.blk = b6 → e4.blk = b4 → e3.blk = b3 → e2.blk = b2 → freshN [e6, e4, e3, e2] M := fun e6 e4 e3 e2 h6 h4 h3 h2 => ⟨h6 ▸ f6, h4 ▸ f4, h3 ▸ f3, h2 ▸ hb2, trivial⟩
  refine useP [_, _, _, _] (vright_R hv0 ⟨n1, n2, n3, n4, n5⟩) (hL _ _ _ _ rfl rfl rfl rfl) ?_
  cases hri : pB (RiV x)
  · rw [readV_bad (pB_not.1 hri)]
    simp only [push_cast, seval, reduceCtorEq, hb3, hb4, hb6]
  have hrv := pB_iff.1 hri
  simp only [push_cast, seval, reduceCtorEq, hb3, hb4, hb6]
  refine useP [_, _, _, _] (amay_R hse (by omega) (by omega)) (hL _ _ _ _ rfl rfl rfl rfl) ?_
  rw [mayB_r]
  cases hrd : pB (x.rd k)
  · rw [readV_not hrv (pB_not.1 hrd)]
    simp only [push_cast, seval, reduceCtorEq, hb3, hb4, hb6]
  have hrk := pB_iff.1 hrd
  simp only [push_cast, seval, reduceCtorEq, hb3, hb4, hb6]
  refine regO gU3_ok ?_
  simp only [push_cast, seval, reduceCtorEq, hb3, hb4, hb6]
  refine useVL [_, _, _, _] (Q := fun u => ∃ i, PlaceC x.cells k i ∧ u = .tuple #[.int .i64 i, .bool (decide (∃ y, x.cells[i]? = some y ∧ y.key = k))]) (fun M1 hr1 he1 => vfind_ok (a := Ce.z k) hr1 (by omega) (h4.congr he1.symm) hrv.srt) (hL _ _ _ _ rfl rfl rfl rfl) ?_
  rintro u ⟨i, hi, rfl⟩
  by_cases his : ∃ y, x.cells[i]? = some y ∧ y.key = k
  · have hd : decide (∃ y, x.cells[i]? = some y ∧ y.key = k) = true := decide_eq_true his
    obtain ⟨c, hc, hck⟩ := his
    rw [readV_is hrv hrk (place_is hrv.srt hc hck)]
    rcases hla with hl0 | ⟨b, f', d, kd, cs, rfl, hfe, hat⟩
    · rw [hl0] at hc; simp at hc
    obtain ⟨a1, a2⟩ := hat i c hc
    have hil := (List.getElem?_eq_some_iff.1 hc).1
    have i1 : (i : Int) < (x.cells.length : Int) := by omega
    have e2 := (fresh_findS hb2 hfe).2
    have e3 := (fresh_findS f3 hfe).2
    have e4 := (fresh_findS f4 hfe).2
    have e6 := (fresh_findS f6 hfe).2
    simp only [push_cast, seval, reduceCtorEq, hb3, hb4, hb6, hd, i1, hil, hfe, e2, e3, e4, e6, a1, a2]
  have hd : decide (∃ y, x.cells[i]? = some y ∧ y.key = k) = false := decide_eq_false his
  rw [readV_none hrv hrk (place_not hrv.srt hi his)]
  simp only [push_cast, seval, reduceCtorEq, hb3, hb4, hb6, hd]
  refine regO gU3_ok ?_
  simp only [push_cast, seval, reduceCtorEq, hb3, hb4, hb6]
  refine useL [_, _, _, _] (sfind_ok (a := k.at_) h1 (by omega) (fun y hy => by have := n2 y hy; omega)) (AcR.rd _) hm0 (hL _ _ _ _ rfl rfl rfl rfl) fun w M1 hg1 hL1 hq1 => ?_
  obtain ⟨sv, rfl, hsv⟩ := hq1
  obtain ⟨ps, ks, rfl⟩ := LiR.slice hsv
  simp only [push_cast, seval, reduceCtorEq, hb3, hb4, hb6]
  intro b9 hb9
  refine regO gU3_ok ?_
  cases hs : k.slot
  · have e : readB x.base k = Ce.ac k (findS x.base k.at_).bal (findS x.base k.at_).nonce (findS x.base k.at_).code := by unfold readB Ce.ac; rw [if_neg (by rw [hs]; decide)]
    rw [e]
    simp only [push_cast, seval, reduceCtorEq, hb3, hb4, hb6, hb9, hs]
    have d69 : ¬ b6 = b9 := hb9.2.1
    have d96 : ¬ b9 = b6 := hb9.1
    obtain ⟨X4, hX4⟩ : ∃ X4 : Hp, X4 = ⟨b4, 0, .cel 74, [.int .u8 0, .int .u8 0, .int .u8 0, .int .u8 0, .int .u8 0, .int .u8 0, .int .u8 0, .int .u8 0, .int .u8 0, .int .u8 0, .int .u8 0, .int .u8 0, .int .u8 0, .int .u8 0, .int .u8 0, .int .u8 0, .int .u8 0, .int .u8 0, .int .u8 0, .int .u8 0, .bool false, .int .u64 0, .int .u64 0, .int .u64 0, .int .u64 0, .int .u64 0, .int .u64 0, .int .u64 0, .int .u64 0, .int .i64 0, .string .empty, .int .u64 0, .int .u64 0, .int .u64 0, .int .u64 0]⟩ :: ⟨b3, 0, .cel 45, k.cells⟩ :: ⟨b2, 0, .cel 33, [.slice pb x.base.length kb, .slice pr x.reads.length kr, .slice pw x.writes.length kw, .slice pc x.cells.length kc]⟩ :: M1 := ⟨_, rfl⟩
    rw [← hX4]
    refine drawN gU3_ok Tryz.mix [(4, .pointer (some ⟨b4, 0, none⟩)), (6, .pointer (some ⟨b6, 0, none⟩)), (9, .pointer (some ⟨b9, 0, none⟩))]
        (fun i => match i with
          | 0 => Value.pointer (some ⟨b9, 20, none⟩)
          | 1 => (findS x.base k.at_).bal.v
          | 2 => Value.pointer (some ⟨b9, 24, none⟩)
          | 3 => Value.int .i64 (findS x.base k.at_).nonce
          | 4 => Value.pointer (some ⟨b9, 25, none⟩)
          | 5 => Value.string (findS x.base k.at_).code
          | 6 => Value.pointer (some ⟨b6, 25, none⟩)
          | 8 => Value.pointer (some ⟨b6, 29, none⟩)
          | 10 => Value.pointer (some ⟨b6, 30, none⟩)
          | _ => undef)
        (fun l => ⟨b9, 0, .cel 53, (findS x.base k.at_).cells (.slice ps (findS x.base k.at_).slots.length ks)⟩ :: ⟨b6, 0, .cel 74, (Ce.ac k (if l 7 = true then (findS x.base k.at_).bal else W.zero) (if l 9 = true then (findS x.base k.at_).nonce else 0) (if l 11 = true then (findS x.base k.at_).code else .empty)).cells⟩ :: X4) (by kernel_rfl) (by kernel_rfl) (by simp only [push_cast, seval, reduceCtorEq, subT]) (by kernel_rfl) (by rfl) ?_ ?_
    · intro i o ho l T' hli hdep hcl hT
      have hi := (Array.getElem?_eq_some_iff.1 ho).1
      replace hi : i < 12 := hi
      have t6 : getT T' 6 = some (.pointer (some ⟨b6, 0, none⟩)) := hT.2.1
      have t9 : getT T' 9 = some (.pointer (some ⟨b9, 0, none⟩)) := hT.2.2.1
      obtain rfl | rfl | rfl | rfl | rfl | rfl | rfl | rfl | rfl | rfl | rfl | rfl : i = 0 ∨ i = 1 ∨ i = 2 ∨ i = 3 ∨ i = 4 ∨ i = 5 ∨ i = 6 ∨ i = 7 ∨ i = 8 ∨ i = 9 ∨ i = 10 ∨ i = 11 := by omega
      · simp only [List.getElem?_toArray, List.getElem?_cons_zero, List.getElem?_cons_succ, Option.some.injEq] at ho; subst ho
        simp only [push_cast, seval, reduceCtorEq, t9]
        first | exact rfl | exact ⟨fun _ => rfl, rfl⟩
      · simp only [List.getElem?_toArray, List.getElem?_cons_zero, List.getElem?_cons_succ, Option.some.injEq] at ho; subst ho
        have g0 := (hdep 0 (by kernel_rfl)).2 51 rfl
        simp only [push_cast, seval, reduceCtorEq, g0, d96]
        first | exact rfl | exact ⟨fun _ => rfl, rfl⟩
      · simp only [List.getElem?_toArray, List.getElem?_cons_zero, List.getElem?_cons_succ, Option.some.injEq] at ho; subst ho
        simp only [push_cast, seval, reduceCtorEq, t9]
        first | exact rfl | exact ⟨fun _ => rfl, rfl⟩
      · simp only [List.getElem?_toArray, List.getElem?_cons_zero, List.getElem?_cons_succ, Option.some.injEq] at ho; subst ho
        have g2 := (hdep 2 (by kernel_rfl)).2 53 rfl
        simp only [push_cast, seval, reduceCtorEq, g2, d96]
        first | exact rfl | exact ⟨fun _ => rfl, rfl⟩
      · simp only [List.getElem?_toArray, List.getElem?_cons_zero, List.getElem?_cons_succ, Option.some.injEq] at ho; subst ho
        simp only [push_cast, seval, reduceCtorEq, t9]
        first | exact rfl | exact ⟨fun _ => rfl, rfl⟩
      · simp only [List.getElem?_toArray, List.getElem?_cons_zero, List.getElem?_cons_succ, Option.some.injEq] at ho; subst ho
        have g4 := (hdep 4 (by kernel_rfl)).2 55 rfl
        simp only [push_cast, seval, reduceCtorEq, g4, d96]
        first | exact rfl | exact ⟨fun _ => rfl, rfl⟩
      · simp only [List.getElem?_toArray, List.getElem?_cons_zero, List.getElem?_cons_succ, Option.some.injEq] at ho; subst ho
        simp only [push_cast, seval, reduceCtorEq, t6]
        first | exact rfl | exact ⟨fun _ => rfl, rfl⟩
      · simp only [List.getElem?_toArray, List.getElem?_cons_zero, List.getElem?_cons_succ, Option.some.injEq] at ho; subst ho
        have g6 := (hdep 6 (by kernel_rfl)).2 57 rfl
        have g1 := (hdep 1 (by kernel_rfl)).2 52 rfl
        have l7 : l 7 = false := hli
        have l9 : l 9 = false := Bool.eq_false_iff.2 fun h => by (have := hcl 9 7 (by kernel_rfl) h; rw [hli] at this; cases this)
        have l11 : l 11 = false := Bool.eq_false_iff.2 fun h => by (have := hcl 11 7 (by kernel_rfl) h; rw [hli] at this; cases this)
        simp only [push_cast, seval, reduceCtorEq, g6, g1, l7, l9, l11, d69, Ce.setBal, Bool.or_true, Bool.or_false, Bool.true_or, Bool.false_or, Nat.reduceBEq, beq_self_eq_true, Option.isSome_none, Option.isSome_some, false_implies, true_and, and_true, reduceIte, forall_const]
        rw [show (29 : Nat) = 25 + 4 from rfl, Ce.dropk]; rfl
      · simp only [List.getElem?_toArray, List.getElem?_cons_zero, List.getElem?_cons_succ, Option.some.injEq] at ho; subst ho
        simp only [push_cast, seval, reduceCtorEq, t6]
        first | exact rfl | exact ⟨fun _ => rfl, rfl⟩
      · simp only [List.getElem?_toArray, List.getElem?_cons_zero, List.getElem?_cons_succ, Option.some.injEq] at ho; subst ho
        have g8 := (hdep 8 (by kernel_rfl)).2 58 rfl
        have g3 := (hdep 3 (by kernel_rfl)).2 54 rfl
        have l7 : l 7 = true := (hdep 7 (by kernel_rfl)).1
        have l9 : l 9 = false := hli
        have l11 : l 11 = false := Bool.eq_false_iff.2 fun h => by (have := hcl 11 9 (by kernel_rfl) h; rw [hli] at this; cases this)
        simp only [push_cast, seval, reduceCtorEq, g8, g3, l7, l9, l11, d69, Ce.setNon, Bool.or_true, Bool.or_false, Bool.true_or, Bool.false_or, Nat.reduceBEq, beq_self_eq_true, Option.isSome_none, Option.isSome_some, false_implies, true_and, and_true, reduceIte, forall_const]
        rfl
      · simp only [List.getElem?_toArray, List.getElem?_cons_zero, List.getElem?_cons_succ, Option.some.injEq] at ho; subst ho
        simp only [push_cast, seval, reduceCtorEq, t6]
        first | exact rfl | exact ⟨fun _ => rfl, rfl⟩
      · simp only [List.getElem?_toArray, List.getElem?_cons_zero, List.getElem?_cons_succ, Option.some.injEq] at ho; subst ho
        have g10 := (hdep 10 (by kernel_rfl)).2 59 rfl
        have g5 := (hdep 5 (by kernel_rfl)).2 56 rfl
        have l7 : l 7 = true := (hdep 7 (by kernel_rfl)).1
        have l9 : l 9 = true := (hdep 9 (by kernel_rfl)).1
        have l11 : l 11 = false := hli
        simp only [push_cast, seval, reduceCtorEq, g10, g5, l7, l9, l11, d69, Ce.setCod, Bool.or_true, Bool.or_false, Bool.true_or, Bool.false_or, Nat.reduceBEq, beq_self_eq_true, Option.isSome_none, Option.isSome_some, false_implies, true_and, and_true, reduceIte, forall_const]
        rfl
    · intro l hall
      have l7 : l 7 = true := hall 7 (by decide)
      have l9 : l 9 = true := hall 9 (by decide)
      have l11 : l 11 = true := hall 11 (by decide)
      subst hX4
      simp only [push_cast, seval, reduceCtorEq, l7, l9, l11, hb3, hb4, hb6, hb9, d69, d96, Bool.or_true, reduceIte]
  · have e : readB x.base k = Ce.sv k (getW (findS x.base k.at_).slots k.key) := by unfold readB Ce.sv; rw [if_pos hs]
    rw [e]
    simp only [push_cast, seval, reduceCtorEq, hb3, hb4, hb6, hb9, hs]
    have hgm := hg1.marks
    have f9 : fresh b9 M1 := hb9.2.2.2.2.2.2.2.2
    have hL9 : ∀ e9 e6 e4 e3 e2 : Ent, e9.blk = b9 → e6.blk = b6 → e4.blk = b4 → e3.blk = b3 → e2.blk = b2 → freshN [e9, e6, e4, e3, e2] M1 := fun e9 e6 e4 e3 e2 h9 h6 h4 h3 h2 => ⟨h9 ▸ f9, h6 ▸ hL1.1, h4 ▸ hL1.2.1, h3 ▸ hL1.2.2.1, h2 ▸ hL1.2.2.2.1, trivial⟩
    refine useP [_, _, _, _, _] (get_R hsv (by have := (mayA_slots (hrv.st.findMay k.at_)).len; omega)) (hL9 _ _ _ _ _ rfl rfl rfl rfl rfl) ?_
    have ez := Ce.z_set4 k (getW (findS x.base k.at_).slots k.key)
    rw [(Ce.z k).drop35, List.append_nil] at ez
    simp only [push_cast, seval, reduceCtorEq, hb3, hb4, hb6, hb9, ez]
theorem vread_R {M : Hp} {x : Vi} {v : Value} {k : Ky} (hv : ViR x v M) (hb : x.Fit) : ∀ M0, roM M0 → cellsAt M0 = cellsAt M → CallsV Tryz.prog 51 [v, k.v] M0 (Ret0 (.tuple #[(readV x k).1.v, .int .i64 (readV x k).2])) :=
  fun _ hr he => vread_ok (ViR.rd _ _ _ _ he.symm hv) hr hb
theorem vslot_ok {M : Hp} {x : Vi} {v : Value} {a : Ad} {q : W} (hv : ViR x v M) (hm : roM M) (hb : x.Fit) : CallsV Tryz.prog 17 [v, a.v, q.v] M (Ret0 (.tuple #[(slotV x a q).1.v, .int .i64 (slotV x a q).2])) := by
  have hm0 := hm.marks
  have hv0 := hv
  obtain ⟨vb, vr, vw, vc, rfl, h1, h2, h3, h4⟩ := hv
  obtain ⟨pb, kb, rfl⟩ := h1.slice
  obtain ⟨pr, kr, rfl⟩ := LiR.slice h2
  obtain ⟨pw, kw, rfl⟩ := LiR.slice h3
  obtain ⟨pc, kc, rfl⟩ := LiR.slice h4
  unfold slotV
  refine callsO gU3_ok Tryz.mix (fun i => if i = 1 then [(0, 9)] else Tryz.pl17 i) Tryz.func17 rfl Tryz.ntmps17 Tryz.results17 rfl (by first | rfl | assumption) (Nat.le_of_ble_eq_true rfl) (by kernel_rfl) ?_
  simp only [push_cast, seval, reduceCtorEq]
  intro b3 hb3 b4 hb4 b5 hb5 b6 hb6
  refine regO gU3_ok ?_
  simp only [push_cast, seval, reduceCtorEq, hb3, hb4, hb5, hb6, Ad.k1, Ad.k2, Ad.k3, Ad.k4, Ky.oT]
  refine useP [_, _, _, _] (vread_R hv0 hb) ⟨hb6.2.2.2.2.2.2, hb5.2.2.2.2, hb4.2.2, hb3, trivial⟩ ?_
  simp only [push_cast, seval, reduceCtorEq, hb3, hb4, hb5, hb6]
  intro b8 hb8
  simp only [push_cast, seval, reduceCtorEq, hb3, hb4, hb5, hb6, hb8]
theorem vslot_R {M : Hp} {x : Vi} {v : Value} {a : Ad} {q : W} (hv : ViR x v M) (hb : x.Fit) : ∀ M0, roM M0 → cellsAt M0 = cellsAt M → CallsV Tryz.prog 17 [v, a.v, q.v] M0 (Ret0 (.tuple #[(slotV x a q).1.v, .int .i64 (slotV x a q).2])) :=
  fun _ hr he => vslot_ok (ViR.rd _ _ _ _ he.symm hv) hr hb
theorem vaccount_ok {M : Hp} {x : Vi} {v : Value} {a : Ad} (hv : ViR x v M) (hm : roM M) (hb : x.Fit) : CallsV Tryz.prog 16 [v, a.v] M (Ret0 (.tuple #[.agg ((accV x a).1.cells (.slice none 0 0)).toArray, .int .i64 (accV x a).2])) := by
  have hm0 := hm.marks
  have hv0 := hv
  obtain ⟨vb, vr, vw, vc, rfl, h1, h2, h3, h4⟩ := hv
  obtain ⟨pb, kb, rfl⟩ := h1.slice
  obtain ⟨pr, kr, rfl⟩ := LiR.slice h2
  obtain ⟨pw, kw, rfl⟩ := LiR.slice h3
  obtain ⟨pc, kc, rfl⟩ := LiR.slice h4
  unfold accV
  refine callsO gU3_ok Tryz.mix (fun i => if i = 1 then [(0, 9)] else Tryz.pl16 i) Tryz.func16 rfl Tryz.ntmps16 Tryz.results16 rfl (by first | rfl | assumption) (Nat.le_of_ble_eq_true rfl) (by kernel_rfl) ?_
  simp only [push_cast, seval, reduceCtorEq]
  intro b2 hb2 b3 hb3 b4 hb4
  refine regO gU3_ok ?_
  simp only [push_cast, seval, reduceCtorEq, hb3, hb4, Ky.oF]
  refine useP [_, _, _] (vread_R hv0 hb) ⟨hb4.2.2.2.2, hb3.2.2, hb2, trivial⟩ ?_
  simp only [push_cast, seval, reduceCtorEq, hb3, hb4]
  intro b6 hb6
  obtain ⟨c, e, hce⟩ : ∃ c e, readV x ⟨a, false, W.zero⟩ = (c, e) := ⟨_, _, rfl⟩
  rw [hce]
  by_cases h0 : e = 0
  · rw [if_pos h0]
    subst h0
    have eo : a.cells ++ (c.bal.cells ++ [.int .i64 c.nonce, .string c.code, .slice none 0 0]) = (⟨a, c.bal, c.nonce, c.code, []⟩ : Ac).cells (.slice none 0 0) := rfl
    simp only [push_cast, seval, reduceCtorEq, hb3, hb4, hb6, Ad.k1, Ad.k5, Ad.k6, Ad.k7, Ad.k8, Ad.k9, eo]
  · rw [if_neg h0]
    have h1 : (e != 0) = true := bne_iff_ne.2 h0
    simp only [push_cast, seval, reduceCtorEq, hb3, hb4, hb6, h1]
    rfl
theorem vaccount_R {M : Hp} {x : Vi} {v : Value} {a : Ad} (hv : ViR x v M) (hb : x.Fit) : ∀ M0, roM M0 → cellsAt M0 = cellsAt M → CallsV Tryz.prog 16 [v, a.v] M0 (Ret0 (.tuple #[.agg ((accV x a).1.cells (.slice none 0 0)).toArray, .int .i64 (accV x a).2])) :=
  fun _ hr he => vaccount_ok (ViR.rd _ _ _ _ he.symm hv) hr hb
end Go.Proofs.YtincedmdkdjakaaGreat
set_option linter.unusedSimpArgs false
set_option linter.unusedVariables false
namespace Go.Ev
theorem Ac.at26 (x : Ac) (sv : Value) : (x.cells sv)[26]? = some sv := by
  have h2 := congrArg (fun l : List Value => l[0]?) (x.slo26 sv)
  simpa [List.getElem?_take, List.getElem?_drop] using h2
def cellT (o : Option Ce) : Value := match o with
  | some c => .tuple #[c.v, .bool true]
  | none => .tuple #[(Ce.z Ky.zero).v, .bool false]
theorem cellOf_first {l : List Ce} {k : Ky} {i : Nat} {c : Ce} (hc : l[i]? = some c) (hk : c.key = k) (h : ∀ j y, j < i → l[j]? = some y → ¬ y.key = k) : cellOf l k = some c := by
  unfold cellOf
  obtain ⟨hi1, hi2⟩ := List.getElem?_eq_some_iff.1 hc
  rw [List.find?_eq_some_iff_getElem]
  refine ⟨decide_eq_true hk, i, hi1, hi2, fun j hj => ?_⟩
  have := h j _ hj (List.getElem?_eq_getElem (by omega))
  simp [this]
theorem cellOf_no {l : List Ce} {k : Ky} (h : ∀ j y, j < l.length → l[j]? = some y → ¬ y.key = k) : cellOf l k = none := by
  unfold cellOf
  rw [List.find?_eq_none]
  intro y hy
  obtain ⟨j, hj⟩ := List.getElem?_of_mem hy
  have := h j y (List.getElem?_eq_some_iff.1 hj).1 hj
  simp [this]
end Go.Ev
namespace Go.Proofs.YtincedmdkdjakaaGreat
open Go Go.Ev Go.Proofs
set_option maxRecDepth 100000
set_option maxHeartbeats 4000000
theorem rcell_ok {M : Hp} {x : Vi} {v : Value} {k : Ky} (hv : ViR x v M) (hm0 : marksOf M = []) (hb : x.Fit) : CallsV Tryz.prog 73 [v, k.v] M (Ret0 (cellT (cellOf x.cells k))) := by
  obtain ⟨n1, n2, n3, n4, n5⟩ := hb
  obtain ⟨vb, vr, vw, vc, rfl, h1, h2, h3, h4⟩ := hv
  obtain ⟨pb, kb, rfl⟩ := h1.slice
  obtain ⟨pr, kr, rfl⟩ := LiR.slice h2
  obtain ⟨pw, kw, rfl⟩ := LiR.slice h3
  obtain ⟨pc, kc, rfl, hla⟩ := LiR.openE h4
  refine callsO gU3_ok Tryz.mix Tryz.pl73 Tryz.func73 rfl Tryz.ntmps73 Tryz.results73 rfl (by first | rfl | assumption) (Nat.le_of_ble_eq_true rfl) (by kernel_rfl) ?_
  simp only [push_cast, seval, reduceCtorEq]
  intro b2 hb2 b3 hb3 b4 hb4
  have f4 : fresh b4 M := hb4.2.2.2.2
  have f3 : fresh b3 M := hb3.2.2
  obtain ⟨Z, hZ⟩ : ∃ Z : List Value, Z = [.int .u8 0, .int .u8 0, .int .u8 0, .int .u8 0, .int .u8 0, .int .u8 0, .int .u8 0, .int .u8 0, .int .u8 0, .int .u8 0, .int .u8 0, .int .u8 0, .int .u8 0, .int .u8 0, .int .u8 0, .int .u8 0, .int .u8 0, .int .u8 0, .int .u8 0, .int .u8 0, .bool false, .int .u64 0, .int .u64 0, .int .u64 0, .int .u64 0, .int .u64 0, .int .u64 0, .int .u64 0, .int .u64 0, .int .i64 0, .string .empty, .int .u64 0, .int .u64 0, .int .u64 0, .int .u64 0] := ⟨_, rfl⟩
  have hZl : Z.length = 35 := by rw [hZ]; rfl
  have hZd : List.drop 35 Z = [] := List.drop_of_length_le (Nat.le_of_eq hZl)
  rw [← hZ]
  refine loopO gU3_ok (pl := Tryz.pl73) Tryz.mix (X := Nat)
    (fun i => ([(2, .pointer (some ⟨b2, 0, none⟩)), (3, .pointer (some ⟨b3, 0, none⟩)), (4, .pointer (some ⟨b4, 0, none⟩)), (6, .int .i64 i)],
      ⟨b4, 0, .cel 74, Z⟩ :: ⟨b3, 0, .cel 45, k.cells⟩ :: ⟨b2, 0, .cel 33, [.slice pb x.base.length kb, .slice pr x.reads.length kr, .slice pw x.writes.length kw, .slice pc x.cells.length kc]⟩ :: M))
    (fun i => i ≤ x.cells.length ∧ ∀ j y, j < i → x.cells[j]? = some y → ¬ y.key = k) (fun i => x.cells.length - i) 0 ?_ ?_ (by kernel_rfl) ?_
  · exact ⟨Nat.zero_le _, fun i x h => by omega⟩
  · simp only [push_cast, seval, reduceCtorEq]
  · rintro i ⟨hi, ho⟩
    dsimp only at hi ho ⊢
    rcases Nat.lt_or_ge i x.cells.length with hlt | hge
    · obtain ⟨c, hc⟩ : ∃ c, x.cells[i]? = some c := ⟨x.cells[i], List.getElem?_eq_getElem hlt⟩
      rcases hla with hl0 | ⟨b, f', d, kd, cs, rfl, hfe, hat⟩
      · rw [hl0] at hc; simp at hc
      obtain ⟨a1, a2⟩ := hat i c hc
      have i1 : (i : Int) < (x.cells.length : Int) := by omega
      have e2 := (fresh_findS hb2 hfe).2
      have e3 := (fresh_findS f3 hfe).2
      have e4 := (fresh_findS f4 hfe).2
      have a3 : d + i * 35 + 25 ≤ cs.length := by omega
      have a4 : List.take 25 (List.drop (d + i * 35) cs) = c.key.cells := by
        have := congrArg (List.take 25) a2
        rw [c.take25, List.take_take] at this
        exact this
      by_cases hck : c.key = k
      · rw [cellOf_first hc hck ho]
        unfold cellT
        simp only [push_cast, seval, reduceCtorEq, hb3, hb4, i1, hlt, hfe, e2, e3, e4, a1, a2, a3, a4, decide_eq_true hck, hZl, hZd]
      · simp only [push_cast, seval, reduceCtorEq, hb3, hb4, i1, hlt, hfe, e2, e3, e4, a1, a2, a3, a4, decide_eq_false hck, wrap_i64' (show -9223372036854775808 ≤ (i : Int) + 1 ∧ (i : Int) + 1 ≤ 9223372036854775807 by omega)]
        refine ⟨i + 1, ⟨hlt, fun j y hj hy => ?_⟩, by omega, rfl⟩
        rcases Nat.lt_or_ge j i with h5 | h5
        · exact ho j y h5 hy
        · obtain rfl : j = i := by omega
          rw [hc] at hy; cases hy; exact hck
    · obtain rfl : i = x.cells.length := by omega
      rw [cellOf_no ho]
      unfold cellT
      simp only [push_cast, seval, reduceCtorEq, hb3, hb4, Nat.lt_irrefl, Int.lt_irrefl, hZl, hZd]
      rfl
theorem rcell_R {M : Hp} {x : Vi} {v : Value} {k : Ky} (hv : ViR x v M) (hb : x.Fit) : ∀ M0, roM M0 → cellsAt M0 = cellsAt M → CallsV Tryz.prog 73 [v, k.v] M0 (Ret0 (cellT (cellOf x.cells k))) :=
  fun _ hr he => rcell_ok (ViR.rd _ _ _ _ he.symm hv) hr.marks hb
def plRA : Plans := fun i => if i = 1 then [(0, 9)] else if i = 2 then [(0, 9)] else if i = 6 then [(0, 9)] else if i = 9 then [(0, 9)] else if i = 10 then [(0, 9)] else Tryz.pl32 i
def plRS : Plans := fun i => if i = 1 then [(0, 9)] else if i = 2 then [(0, 9)] else if i = 6 then [(0, 9)] else if i = 9 then [] else Tryz.pl33 i
attribute [push_cast] plRA plRS
theorem r11account_ok {M : Hp} {x : Vi} {v : Value} {a : Ad} (hv : ViR x v M) (hm : roM M) (hb : x.Fit) : CallsV Tryz.prog 32 [v, a.v] M (Ret0 (.tuple #[.agg ((accV x a).1.cells (.slice none 0 0)).toArray, .int .i64 (accV x a).2])) := by
  have hm0 := hm.marks
  have hv0 := hv
  obtain ⟨vb, vr, vw, vc, rfl, h1, h2, h3, h4⟩ := hv
  have hse : SeR x.reads x.writes (.agg #[vr, vw]) M := ⟨vr, vw, rfl, h2, h3⟩
  obtain ⟨pb, kb, rfl⟩ := h1.slice
  obtain ⟨pr, kr, rfl⟩ := LiR.slice h2
  obtain ⟨pw, kw, rfl⟩ := LiR.slice h3
  obtain ⟨pc, kc, rfl⟩ := LiR.slice h4
  have hb0 := hb
  obtain ⟨n1, n2, n3, n4, n5⟩ := hb
  refine callsO gU3_ok Tryz.mix plRA Tryz.func32 rfl Tryz.ntmps32 Tryz.results32 rfl (by first | rfl | assumption) (Nat.le_of_ble_eq_true rfl) (by kernel_rfl) ?_
  simp only [push_cast, seval, reduceCtorEq]
  intro b2 hb2 b3 hb3 b4 hb4
  refine regO gU3_ok ?_
  simp only [push_cast, seval, reduceCtorEq, hb3, hb4, Ky.oF]
  intro b6 hb6
  refine regO gU3_ok ?_
  simp only [push_cast, seval, reduceCtorEq, hb3, hb4, hb6]
  obtain ⟨K, hK⟩ : ∃ K : Ky, K = ⟨a, false, W.zero⟩ := ⟨_, rfl⟩
  rw [← hK]
  have f6 : fresh b6 M := hb6.2.2.2.2.2.2
  have f4 : fresh b4 M := hb4.2.2.2.2
  have f3 : fresh b3 M := hb3.2.2
  have hL : ∀ e6 e4 e3 e2 : Ent, e6.blk = b6 → e4.blk = b4 → e3.blk = b3 → e2.blk = b2 → freshN [e6, e4, e3, e2] M := fun e6 e4 e3 e2 h6 h4 h3 h2 => ⟨h6 ▸ f6, h4 ▸ f4, h3 ▸ f3, h2 ▸ hb2, trivial⟩
  have ha : accV x a = if (readV x K).2 = 0 then (⟨a, (readV x K).1.bal, (readV x K).1.nonce, (readV x K).1.code, []⟩, 0) else (⟨Ad.zero, W.zero, 0, .empty, []⟩, (readV x K).2) := by unfold accV; rw [hK]
  rw [ha]
  refine useP [_, _, _, _] (r11right_R hv0 hb0) (hL _ _ _ _ rfl rfl rfl rfl) ?_
  cases hri : pB (RiV x)
  · rw [readV_bad (pB_not.1 hri), if_neg (by exact (by decide : ¬ (1 : Int) = 0))]
    simp only [push_cast, seval, reduceCtorEq, hb3, hb4, hb6]
    rfl
  have hrv := pB_iff.1 hri
  simp only [push_cast, seval, reduceCtorEq, hb3, hb4, hb6]
  refine useP [_, _, _, _] (rmay_R hse (by omega) (by omega)) (hL _ _ _ _ rfl rfl rfl rfl) ?_
  rw [mayB_r]
  cases hrd : pB (x.rd K)
  · rw [readV_not hrv (pB_not.1 hrd), if_neg (by exact (by decide : ¬ (30 : Int) = 0))]
    simp only [push_cast, seval, reduceCtorEq, hb3, hb4, hb6]
    rfl
  have hrk := pB_iff.1 hrd
  simp only [push_cast, seval, reduceCtorEq, hb3, hb4, hb6]
  refine regO gU3_ok ?_
  simp only [push_cast, seval, reduceCtorEq, hb3, hb4, hb6]
  refine useP [_, _, _, _] (rcell_R hv0 hb0) (hL _ _ _ _ rfl rfl rfl rfl) ?_
  cases hce : cellOf x.cells K with
  | some c =>
    rw [readV_is hrv hrk hce, if_pos rfl]
    have eo : a.cells ++ (c.bal.cells ++ [.int .i64 c.nonce, .string c.code, .slice none 0 0]) = (⟨a, c.bal, c.nonce, c.code, []⟩ : Ac).cells (.slice none 0 0) := rfl
    unfold cellT
    simp only [push_cast, seval, reduceCtorEq, hb3, hb4, hb6]
    intro b7 hb7
    simp only [push_cast, seval, reduceCtorEq, hb3, hb4, hb6, hb7, Ad.k1, Ad.k5, Ad.k6, Ad.k7, Ad.k8, Ad.k9, eo]
  | none =>
    have e : readB x.base K = Ce.ac K (findS x.base K.at_).bal (findS x.base K.at_).nonce (findS x.base K.at_).code := by unfold readB Ce.ac; rw [if_neg (by rw [hK]; exact Bool.false_ne_true)]
    rw [readV_none hrv hrk hce, if_pos rfl, e]
    have hKa : K.at_ = a := by rw [hK]
    have hfa : (findS x.base a).at_ = a := findS_at _ _
    unfold cellT
    simp only [push_cast, seval, reduceCtorEq, hb3, hb4, hb6]
    intro b7 hb7
    refine regO gU3_ok ?_
    have hL7 : ∀ e7 e6 e4 e3 e2 : Ent, e7.blk = b7 → e6.blk = b6 → e4.blk = b4 → e3.blk = b3 → e2.blk = b2 → freshN [e7, e6, e4, e3, e2] M := fun e7 e6 e4 e3 e2 h7 h6 h4 h3 h2 => ⟨h7 ▸ hb7.2.2.2.2.2.2.2.2, h6 ▸ f6, h4 ▸ f4, h3 ▸ f3, h2 ▸ hb2, trivial⟩
    simp only [push_cast, seval, reduceCtorEq, hb3, hb4, hb6, hb7]
    refine useL [_, _, _, _, _] (refFind_ok (a := a) h1 (by omega) (fun y hy => by have := n2 y hy; omega)) (AcR.rd _) hm0 (hL7 _ _ _ _ _ rfl rfl rfl rfl rfl) fun w M1 hg1 hL1 hq1 => ?_
    obtain ⟨sv, rfl, hsv⟩ := hq1
    obtain ⟨ps, ks, rfl⟩ := LiR.slice hsv
    simp only [push_cast, seval, reduceCtorEq, hb3, hb4, hb6, hb7]
    intro b9 hb9
    refine regO gU3_ok ?_
    simp only [push_cast, seval, reduceCtorEq, hb3, hb4, hb6, hb7, hb9]
    rw [hKa]
    unfold Ce.ac Ac.cells
    dsimp only
    rw [hfa]
theorem r11account_R {M : Hp} {x : Vi} {v : Value} {a : Ad} (hv : ViR x v M) (hb : x.Fit) : ∀ M0, roM M0 → cellsAt M0 = cellsAt M → CallsV Tryz.prog 32 [v, a.v] M0 (Ret0 (.tuple #[.agg ((accV x a).1.cells (.slice none 0 0)).toArray, .int .i64 (accV x a).2])) :=
  fun _ hr he => r11account_ok (ViR.rd _ _ _ _ he.symm hv) hr hb
theorem r11slot_ok {M : Hp} {x : Vi} {v : Value} {a : Ad} {q : W} (hv : ViR x v M) (hm : roM M) (hb : x.Fit) : CallsV Tryz.prog 33 [v, a.v, q.v] M (Ret0 (.tuple #[(slotV x a q).1.v, .int .i64 (slotV x a q).2])) := by
  have hm0 := hm.marks
  have hv0 := hv
  obtain ⟨vb, vr, vw, vc, rfl, h1, h2, h3, h4⟩ := hv
  have hse : SeR x.reads x.writes (.agg #[vr, vw]) M := ⟨vr, vw, rfl, h2, h3⟩
  obtain ⟨pb, kb, rfl⟩ := h1.slice
  obtain ⟨pr, kr, rfl⟩ := LiR.slice h2
  obtain ⟨pw, kw, rfl⟩ := LiR.slice h3
  obtain ⟨pc, kc, rfl⟩ := LiR.slice h4
  have hb0 := hb
  obtain ⟨n1, n2, n3, n4, n5⟩ := hb
  refine callsO gU3_ok Tryz.mix plRS Tryz.func33 rfl Tryz.ntmps33 Tryz.results33 rfl (by first | rfl | assumption) (Nat.le_of_ble_eq_true rfl) (by kernel_rfl) ?_
  simp only [push_cast, seval, reduceCtorEq]
  intro b2 hb2 b3 hb3 b4 hb4 b5 hb5
  refine regO gU3_ok ?_
  simp only [push_cast, seval, reduceCtorEq, hb3, hb4, hb5, Ad.k1, Ad.k2, Ad.k3, Ad.k4, Ky.oT]
  intro b6 hb6
  refine regO gU3_ok ?_
  simp only [push_cast, seval, reduceCtorEq, hb3, hb4, hb5, hb6]
  obtain ⟨K, hK⟩ : ∃ K : Ky, K = ⟨a, true, q⟩ := ⟨_, rfl⟩
  rw [← hK]
  have f6 : fresh b6 M := hb6.2.2.2.2.2.2.2.2
  have f5 : fresh b5 M := hb5.2.2.2.2.2.2
  have f4 : fresh b4 M := hb4.2.2.2.2
  have f3 : fresh b3 M := hb3.2.2
  have hL : ∀ e6 e5 e4 e3 e2 : Ent, e6.blk = b6 → e5.blk = b5 → e4.blk = b4 → e3.blk = b3 → e2.blk = b2 → freshN [e6, e5, e4, e3, e2] M := fun e6 e5 e4 e3 e2 h6 h5 h4 h3 h2 => ⟨h6 ▸ f6, h5 ▸ f5, h4 ▸ f4, h3 ▸ f3, h2 ▸ hb2, trivial⟩
  have ha : slotV x a q = ((readV x K).1.val, (readV x K).2) := by unfold slotV; rw [hK]
  rw [ha]
  refine useP [_, _, _, _, _] (r11right_R hv0 hb0) (hL _ _ _ _ _ rfl rfl rfl rfl rfl) ?_
  cases hri : pB (RiV x)
  · rw [readV_bad (pB_not.1 hri)]
    simp only [push_cast, seval, reduceCtorEq, hb3, hb4, hb5, hb6]
    rfl
  have hrv := pB_iff.1 hri
  simp only [push_cast, seval, reduceCtorEq, hb3, hb4, hb5, hb6]
  refine useP [_, _, _, _, _] (rmay_R hse (by omega) (by omega)) (hL _ _ _ _ _ rfl rfl rfl rfl rfl) ?_
  rw [mayB_r]
  cases hrd : pB (x.rd K)
  · rw [readV_not hrv (pB_not.1 hrd)]
    simp only [push_cast, seval, reduceCtorEq, hb3, hb4, hb5, hb6]
    rfl
  have hrk := pB_iff.1 hrd
  simp only [push_cast, seval, reduceCtorEq, hb3, hb4, hb5, hb6]
  refine regO gU3_ok ?_
  simp only [push_cast, seval, reduceCtorEq, hb3, hb4, hb5, hb6]
  refine useP [_, _, _, _, _] (rcell_R hv0 hb0) (hL _ _ _ _ _ rfl rfl rfl rfl rfl) ?_
  cases hce : cellOf x.cells K with
  | some c =>
    rw [readV_is hrv hrk hce]
    unfold cellT
    simp only [push_cast, seval, reduceCtorEq, hb3, hb4, hb5, hb6]
    intro b7 hb7
    simp only [push_cast, seval, reduceCtorEq, hb3, hb4, hb5, hb6, hb7]
  | none =>
    have e : readB x.base K = Ce.sv K (getW (findS x.base K.at_).slots K.key) := by unfold readB Ce.sv; rw [if_pos (by rw [hK])]
    rw [readV_none hrv hrk hce, e]
    have hKa : K.at_ = a := by rw [hK]
    have hKq : K.key = q := by rw [hK]
    rw [hKa, hKq]
    unfold cellT
    simp only [push_cast, seval, reduceCtorEq, hb3, hb4, hb5, hb6]
    intro b7 hb7
    refine drawO gU3_ok Tryz.mix [(0, 0), (1, 0), (2, 0), (5, 0), (3, 2), (4, 0), (6, 0), (7, 1), (8, 0)] (by kernel_rfl) ?_
    have hL7 : ∀ e7 e6 e5 e4 e3 e2 : Ent, e7.blk = b7 → e6.blk = b6 → e5.blk = b5 → e4.blk = b4 → e3.blk = b3 → e2.blk = b2 → freshN [e7, e6, e5, e4, e3, e2] M := fun e7 e6 e5 e4 e3 e2 h7 h6 h5 h4 h3 h2 => ⟨h7 ▸ hb7.2.2.2.2.2.2.2.2.2.2, h6 ▸ f6, h5 ▸ f5, h4 ▸ f4, h3 ▸ f3, h2 ▸ hb2, trivial⟩
    simp only [push_cast, seval, reduceCtorEq, hb3, hb4, hb5, hb6, hb7]
    refine useL [_, _, _, _, _, _] (refFind_ok (a := a) h1 (by omega) (fun y hy => by have := n2 y hy; omega)) (AcR.rd _) hm0 (hL7 _ _ _ _ _ _ rfl rfl rfl rfl rfl rfl) fun w M1 hg1 hL1 hq1 => ?_
    obtain ⟨sv, rfl, hsv⟩ := hq1
    obtain ⟨ps, ks, rfl⟩ := LiR.slice hsv
    simp only [push_cast, seval, reduceCtorEq, hb3, hb4, hb5, hb6, hb7]
    refine ⟨subH_gr (N := []) trivial hg1, ?_⟩
    rw [Ac.at26]
    refine takeR [_, _, _, _, _, _] (refGet_R hsv (by have := (mayA_slots (hrv.st.findMay a)).len; omega)) hL1 ?_
    simp only [push_cast, seval, reduceCtorEq, hb3, hb4, hb5, hb6, hb7]
    rfl
theorem r11slot_R {M : Hp} {x : Vi} {v : Value} {a : Ad} {q : W} (hv : ViR x v M) (hb : x.Fit) : ∀ M0, roM M0 → cellsAt M0 = cellsAt M → CallsV Tryz.prog 33 [v, a.v, q.v] M0 (Ret0 (.tuple #[(slotV x a q).1.v, .int .i64 (slotV x a q).2])) :=
  fun _ hr he => r11slot_ok (ViR.rd _ _ _ _ he.symm hv) hr hb
end Go.Proofs.YtincedmdkdjakaaGreat
set_option linter.unusedSimpArgs false
set_option linter.unusedVariables false
namespace Go.Ev
def VeR (r : Vi × Int) : Value → Hp → Prop := fun v H => ∃ u, v = .tuple #[u, .int .i64 r.2] ∧ ViR r.1 u H
theorem VeR.rd (r : Vi × Int) : RdOnly (VeR r) := by
  rintro v A B h ⟨u, rfl, hu⟩
  exact ⟨u, rfl, ViR.rd _ _ _ _ h hu⟩
theorem openV_bad {s : List Ac} {R W' : List Ky} (h : ¬ RiV ⟨s, R, W', []⟩) : openV s R W' = (⟨[], [], [], []⟩, 1) := by unfold openV; rw [if_neg h]
theorem openV_ok {s : List Ac} {R W' : List Ky} (h : RiV ⟨s, R, W', []⟩) : openV s R W' = (⟨s, R, W', []⟩, 0) := by unfold openV; rw [if_pos h]
theorem ViR.nil (H : Hp) : ViR ⟨[], [], [], []⟩ (.agg #[.slice none 0 0, .slice none 0 0, .slice none 0 0, .slice none 0 0]) H := ⟨_, _, _, _, rfl, StR.nil H 0, LiR.nil H 0, LiR.nil H 0, LiR.nil H 0⟩
end Go.Ev
namespace Go.Proofs.YtincedmdkdjakaaGreat
open Go Go.Ev Go.Proofs
set_option maxRecDepth 100000
set_option maxHeartbeats 4000000
theorem vopen_ok {M : Hp} {s : List Ac} {R W' : List Ky} {vb vs : Value} (h1 : StR s vb M) (h2 : SeR R W' vs M) (hb : Vi.Fit ⟨s, R, W', []⟩) : CallsR Tryz.prog 26 [vb, vs] M (VeR (openV s R W')) := by
  intro M0 hr he
  have hm := hr.marks
  replace h1 := StR.rd _ _ _ _ he.symm h1
  replace h2 := SeR.rd _ _ _ _ _ he.symm h2
  obtain ⟨vr, vw, rfl, h2, h3⟩ := h2
  obtain ⟨pb, kb, rfl⟩ := h1.slice
  obtain ⟨pr, kr, rfl⟩ := LiR.slice h2
  obtain ⟨pw, kw, rfl⟩ := LiR.slice h3
  refine callsO gU3_ok Tryz.mix (fun i => if i = 1 then [(0, 9)] else Tryz.pl26 i) Tryz.func26 rfl Tryz.ntmps26 Tryz.results26 rfl (by first | rfl | assumption) (Nat.le_of_ble_eq_true rfl) (by kernel_rfl) ?_
  simp only [push_cast, seval, reduceCtorEq]
  intro b3 hb3 b4 hb4
  refine regO gU3_ok ?_
  have f3 : fresh b3 M0 := hb3
  have f4 : fresh b4 M0 := hb4.2.2
  simp only [push_cast, seval, reduceCtorEq, hb4]
  refine useL [_, _] (vown_R (x := ⟨s, R, W', []⟩) ⟨_, _, _, _, rfl, h1, h2, h3, LiR.nil M0 0⟩ hb) (ViR.rd _) hm ⟨f4, f3, trivial⟩ fun u M1 hg1 hL1 hq1 => ?_
  have hq0 := hq1
  obtain ⟨ub, ur, uw, uc, rfl, g1, g2, g3, g4⟩ := hq1
  obtain ⟨qb, lb, rfl⟩ := StR.slice g1
  obtain ⟨qr, lr, rfl⟩ := LiR.slice g2
  obtain ⟨qw, lw, rfl⟩ := LiR.slice g3
  obtain ⟨qc, lc, rfl⟩ := LiR.slice g4
  simp only [push_cast, seval, reduceCtorEq, hb4]
  intro b6 hb6
  refine useP [_, _, _] (vright_R hq0 hb) ⟨hb6.2.2.2.2, hL1⟩ ?_
  cases hri : pB (RiV ⟨s, R, W', []⟩)
  · rw [openV_bad (pB_not.1 hri)]
    simp only [push_cast, seval, reduceCtorEq, hb4, hb6]
    exact doneK2 [_, _, _] hg1 (VeR.rd _) ⟨_, rfl, ViR.nil _⟩
  · rw [openV_ok (pB_iff.1 hri)]
    simp only [push_cast, seval, reduceCtorEq, hb4, hb6]
    exact doneK2 [_, _, _] hg1 (VeR.rd _) ⟨_, rfl, hq0⟩
theorem r11open_ok {M : Hp} {s : List Ac} {R W' : List Ky} {vb vs : Value} (h1 : StR s vb M) (h2 : SeR R W' vs M) (hb : Vi.Fit ⟨s, R, W', []⟩) : CallsR Tryz.prog 28 [vb, vs] M (VeR (openV s R W')) := by
  intro M0 hr he
  have hm := hr.marks
  replace h1 := StR.rd _ _ _ _ he.symm h1
  replace h2 := SeR.rd _ _ _ _ _ he.symm h2
  obtain ⟨vr, vw, rfl, h2, h3⟩ := h2
  obtain ⟨pb, kb, rfl⟩ := h1.slice
  obtain ⟨pr, kr, rfl⟩ := LiR.slice h2
  obtain ⟨pw, kw, rfl⟩ := LiR.slice h3
  refine callsO gU3_ok Tryz.mix (fun i => if i = 1 then [(0, 9)] else Tryz.pl28 i) Tryz.func28 rfl Tryz.ntmps28 Tryz.results28 rfl (by first | rfl | assumption) (Nat.le_of_ble_eq_true rfl) (by kernel_rfl) ?_
  simp only [push_cast, seval, reduceCtorEq]
  intro b3 hb3 b4 hb4
  refine regO gU3_ok ?_
  have f3 : fresh b3 M0 := hb3
  have f4 : fresh b4 M0 := hb4.2.2
  simp only [push_cast, seval, reduceCtorEq, hb4]
  refine useL [_, _] (r11own_R (x := ⟨s, R, W', []⟩) ⟨_, _, _, _, rfl, h1, h2, h3, LiR.nil M0 0⟩ hb) (ViR.rd _) hm ⟨f4, f3, trivial⟩ fun u M1 hg1 hL1 hq1 => ?_
  have hq0 := hq1
  obtain ⟨ub, ur, uw, uc, rfl, g1, g2, g3, g4⟩ := hq1
  obtain ⟨qb, lb, rfl⟩ := StR.slice g1
  obtain ⟨qr, lr, rfl⟩ := LiR.slice g2
  obtain ⟨qw, lw, rfl⟩ := LiR.slice g3
  obtain ⟨qc, lc, rfl⟩ := LiR.slice g4
  simp only [push_cast, seval, reduceCtorEq, hb4]
  intro b6 hb6
  refine useP [_, _, _] (r11right_R hq0 hb) ⟨hb6.2.2.2.2, hL1⟩ ?_
  cases hri : pB (RiV ⟨s, R, W', []⟩)
  · rw [openV_bad (pB_not.1 hri)]
    simp only [push_cast, seval, reduceCtorEq, hb4, hb6]
    exact doneK2 [_, _, _] hg1 (VeR.rd _) ⟨_, rfl, ViR.nil _⟩
  · rw [openV_ok (pB_iff.1 hri)]
    simp only [push_cast, seval, reduceCtorEq, hb4, hb6]
    exact doneK2 [_, _, _] hg1 (VeR.rd _) ⟨_, rfl, hq0⟩
end Go.Proofs.YtincedmdkdjakaaGreat
set_option linter.unusedSimpArgs false
set_option linter.unusedVariables false
namespace Go.Proofs.YtincedmdkdjakaaGreat
open Go Go.Ev Go.Proofs
set_option maxRecDepth 100000
set_option maxHeartbeats 4000000
theorem ovMC_ok (args : List Value) (H : Hp) (v : Value) (h : ovM args H = some v) : ExtM Tryz.prog 129 args H v := by
  intro w0 mu w hs
  rw [run_callFunc_extern Tryz.func129 (by kernel_rfl) (by kernel_rfl) (by kernel_rfl) (e := Extern.SlicesOverlaps.overlaps #[31, 31] #[4]) (by kernel_rfl)]
  rw [ovM_run (P := Tryz.prog) h (e := 74) (by kernel_rfl) (size := 35) (fun w => by rfl) hs]
  rfl
noncomputable def gU4 : Gam := (addM 129 ovM gU3)
attribute [push_cast] gU4
theorem gU4_ok : GamOk Tryz.prog gU4 := (addM_ok ovMC_ok gU3_ok)
def plInsC : Plans := fun i => if i = 9 then [(0, 9)] else if i = 10 then [(0, 9)] else if i = 13 then [(0, 9)] else Tryz.pl110 i
attribute [push_cast] plInsC
theorem insertC_ok {P R : List Ce} {z : Ce} {b b2 c n p q k2 : Nat} (hp : P.length = p) (hq : R.length = q) (hnn : n = p + q) (hc : n ≤ c) (hn : n ≤ 1000000000) (hb : ¬ b = b2) :
    CallsV Tryz.prog 110 [.slice (some ⟨b, 0, none⟩) n c, .int .i64 p, .slice (some ⟨b2, 0, none⟩) 1 k2] [⟨b, 0, .vec 74 35 c, (P ++ R).flatMap Ce.cells⟩, ⟨b2, 0, .vec 74 35 1, z.cells⟩]
      (fun v N => OutG 74 35 ((P ++ z :: R).flatMap Ce.cells) (n + 1) v N) := by
  have hlP : (P.flatMap Ce.cells).length = p * 35 := by rw [← hp]; exact flatMap_len (fun y => y.len) _
  have hlR : (R.flatMap Ce.cells).length = q * 35 := by rw [← hq]; exact flatMap_len (fun y => y.len) _
  have hlx : (z.cells).length = 35 := z.len
  have e0 : (P ++ z :: R).flatMap Ce.cells = P.flatMap Ce.cells ++ (z.cells ++ R.flatMap Ce.cells) := by rw [List.flatMap_append, List.flatMap_cons]
  have e1 : (P ++ R).flatMap Ce.cells = P.flatMap Ce.cells ++ R.flatMap Ce.cells := List.flatMap_append
  have hoP := ceAll P
  have hoR := ceAll R
  have hoz : (z.cells).all oneC = true := z.all1
  rw [e0, e1]
  generalize P.flatMap Ce.cells = A at *
  generalize R.flatMap Ce.cells = B at *
  generalize z.cells = X at *
  have hb' : ¬ b2 = b := fun h => hb h.symm
  have i1 : (p : Int) ≤ (n : Int) := by omega
  have i2 : (0 : Int) ≤ (p : Int) := by omega
  have i3 : p ≤ n := by omega
  have i4 : List.take 35 X = X := List.take_of_length_le (by omega)
  have i5 : A.length + B.length = n * 35 := by omega
  refine CallsV.less (K := fun v N => OutG 74 35 (A ++ (X ++ B)) (n + 1) v N ∨ ∃ ys, n + 1 ≤ c ∧ v = .slice (some ⟨b, 0, none⟩) (n + 1) c ∧ N = [⟨b, 0, .vec 74 35 c, (A ++ (X ++ B)) ++ ys⟩]) ?_ (by
    rintro v N (h | ⟨ys, h1, rfl, rfl⟩)
    · exact ⟨N, Less.refl _, rfl, h⟩
    · exact ⟨_, less_vec, rfl, .inr ⟨b, c, rfl, h1, by rw [List.length_append, List.length_append]; omega, rfl⟩⟩)
  refine callsO gU4_ok Tryz.mix plInsC Tryz.func110 rfl Tryz.ntmps110 Tryz.results110 rfl (by first | rfl | assumption) (Nat.le_of_ble_eq_true rfl) (by kernel_rfl) ?_
  rcases Nat.eq_zero_or_pos q with h0 | h0
  · obtain rfl : q = 0 := h0
    obtain rfl : B = [] := List.length_eq_zero_iff.1 (by omega)
    obtain rfl : p = n := by omega
    have j0 : ((p : Int) == (p : Int)) = true := beq_self_eq_true _
    rw [List.length_nil, Nat.add_zero] at i5
    simp only [push_cast, seval, reduceCtorEq, i1, i3, hb, hb', j0, hlx, i4, i5, hoz]
    refine ⟨by unfold two47; omega, fun b' c' hbb hcc => ?_⟩
    exact ⟨[_], (List.nil_sublist _).cons_cons _, .inl (.inr ⟨b', c', rfl, hcc, by rw [List.length_append]; omega, rfl⟩)⟩
  · have j0 : ((p : Int) == (n : Int)) = false := by rw [beq_eq_false_iff_ne]; omega
    have j1 : (n : Int) + 1 ≤ 9223372036854775807 := by omega
    have k2 : ¬ c = 0 := by omega
    rcases Nat.lt_or_ge c (n + 1) with h1 | h1
    · have j2 : (c : Int) < (n : Int) + 1 := by omega
      have k1 : (n : Int) + 1 - (p : Int) = (q : Int) + 1 := by omega
      have k3 : ((q : Int) + 1).toNat = q + 1 := by omega
      have k4 : c < p + (q + 1) := by omega
      have k5 : (p + (q + 1)) * 144 ≤ two47 := by unfold two47; omega
      have k6 : p * 35 ≤ A.length + B.length := by omega
      have k7 : List.take (p * 35) (A ++ B) = A := List.take_left' hlP
      have k8 : p ≤ c := by omega
      have k9 : (0 : Int) < (q : Int) + 1 := by omega
      simp only [push_cast, seval, reduceCtorEq, i1, i3, hb, hb', j0, wrap_i64' (show -9223372036854775808 ≤ (n : Int) + 1 ∧ (n : Int) + 1 ≤ 9223372036854775807 by omega), j2]
      refine regO gU4_ok ?_
      simp only [push_cast, seval, reduceCtorEq, i1, i3, hb, hb', wrap_i64' (show -9223372036854775808 ≤ (n : Int) + 1 ∧ (n : Int) + 1 ≤ 9223372036854775807 by omega), k1, wrap_i64' (show -9223372036854775808 ≤ (q : Int) + 1 ∧ (q : Int) + 1 ≤ 9223372036854775807 by omega), k2, k3, k4, k5, k6, k7, k8, k9]
      intro b3 c3 hb3 hc3
      generalize hZ : repL (q + 1) _ = Z
      have hZl : Z.length = (q + 1) * 35 := by rw [← hZ, repL_len]; rfl
      refine regO gU4_ok ?_
      have m1 : ¬ c3 = p := by omega
      have m2 : min 1 (q + 1) = 1 := by omega
      have m3 : p * 35 + 35 ≤ A.length + Z.length := by omega
      have m4 : List.take (p * 35) (A ++ Z) = A := List.take_left' hlP
      have m5 : List.drop (p * 35 + 35) (A ++ Z) = List.drop 35 Z := by rw [← hlP, List.drop_length_add_append]
      obtain ⟨Y, hY⟩ : ∃ Y, Y = List.drop 35 Z := ⟨_, rfl⟩
      have hYl : Y.length = q * 35 := by rw [hY, List.length_drop]; omega
      have m6 : p + (q + 1) - p = q + 1 := by omega
      have m7 : p ≤ p + (q + 1) := by omega
      have m8 : (p : Int) ≤ (p : Int) + ((q : Int) + 1) := by omega
      have n1 : (p : Int) + 1 ≤ (p : Int) + ((q : Int) + 1) := by omega
      have n2 : (0 : Int) ≤ (p : Int) + 1 := by omega
      have n3 : ((p : Int) + 1).toNat = p + 1 := by omega
      have n4 : ¬ c3 = p + 1 := by omega
      have n5 : p + (q + 1) - (p + 1) = q := by omega
      have n6 : n - p = q := by omega
      have n7 : min q q = q := Nat.min_self q
      have n8 : ¬ c = p := by omega
      have n9 : List.drop (p * 35) (A ++ B) = B := List.drop_left' hlP
      have o1 : List.take (q * 35) B = B := List.take_of_length_le (by omega)
      have o2 : p * 35 + q * 35 ≤ A.length + q * 35 := by omega
      have o3 : ¬ q = 0 := by omega
      have o4 : (p + 1) * 35 + q * 35 ≤ A.length + (35 + Y.length) := by omega
      have o5 : List.take ((p + 1) * 35) (A ++ (X ++ Y)) = A ++ X := by
        rw [← List.append_assoc]
        exact List.take_left' (by rw [List.length_append]; omega)
      have o6 : List.drop ((p + 1) * 35 + q * 35) (A ++ (X ++ Y)) = [] := List.drop_of_length_le (by rw [List.length_append, List.length_append]; omega)
      simp only [push_cast, seval, reduceCtorEq, hb, hb', hb3, m1, m2, m3, m4, m5, ← hY, m6, m7, m8, hlx, i4, hoz, wrap_i64' (show -9223372036854775808 ≤ (p : Int) + 1 ∧ (p : Int) + 1 ≤ 9223372036854775807 by omega), n1, n2, n3, n4, n5, n6, n7, n8, n9, i3, o1, o2, o3, h0, hoR, hlR, o4, o5, o6]
      refine ⟨[_], (List.nil_sublist _).cons_cons _, .inl (.inr ⟨b3, c3, by rw [show p + (q + 1) = n + 1 by omega], by omega, by simp only [List.length_append]; omega, rfl⟩)⟩
    · have j2 : ¬ (c : Int) < (n : Int) + 1 := by omega
      simp only [push_cast, seval, reduceCtorEq, i1, i3, hb, hb', j0, wrap_i64' (show -9223372036854775808 ≤ (n : Int) + 1 ∧ (n : Int) + 1 ≤ 9223372036854775807 by omega), j2]
      refine fullV fun ys hys => ?_
      rw [List.append_assoc] at hys ⊢
      have hyl : A.length + (B.length + ys.length) = c * 35 := by rw [← hys, List.length_append, List.length_append]
      refine regO gU4_ok ?_
      have m1 : (n : Int) + 1 ≤ (c : Int) := by omega
      have m2 : (0 : Int) ≤ (n : Int) + 1 := by omega
      have m3 : ((n : Int) + 1).toNat = n + 1 := by omega
      have m4 : n + 1 ≤ c := h1
      have n1 : (p : Int) + 1 ≤ (n : Int) + 1 := by omega
      have n2 : (0 : Int) ≤ (p : Int) + 1 := by omega
      have n3 : ((p : Int) + 1).toNat = p + 1 := by omega
      have n4 : ¬ c = p + 1 := by omega
      have n5 : n + 1 - (p + 1) = q := by omega
      have n6 : n + 1 - p = q + 1 := by omega
      have n7 : min (q + 1) q = q := by omega
      have n8 : ¬ c = p := by omega
      have n9 : List.drop (p * 35) (A ++ (B ++ ys)) = B ++ ys := List.drop_left' hlP
      have o1 : List.take (q * 35) (B ++ ys) = B := List.take_left' hlR
      have o2 : p * 35 + q * 35 ≤ A.length + (q * 35 + ys.length) := by omega
      have o3 : ¬ q = 0 := by omega
      have o4 : (p + 1) * 35 + q * 35 ≤ A.length + (q * 35 + ys.length) := by omega
      have o7 : ¬ (A.length + (q * 35 + ys.length) = 0) := by omega
      obtain ⟨T1, hT1⟩ : ∃ T, T = List.take ((p + 1) * 35) (A ++ (B ++ ys)) := ⟨_, rfl⟩
      obtain ⟨U, hU⟩ : ∃ U, U = List.drop ((p + 1) * 35 + q * 35) (A ++ (B ++ ys)) := ⟨_, rfl⟩
      have hTl : T1.length = (p + 1) * 35 := by rw [hT1, List.length_take, List.length_append, List.length_append]; omega
      have q1 : List.take (p * 35) (T1 ++ (B ++ U)) = A := by
        rw [List.take_append_of_le_length (by omega), hT1, List.take_take, Nat.min_eq_left (by omega)]
        exact List.take_left' hlP
      have q2 : List.drop (p * 35 + 35) (T1 ++ (B ++ U)) = B ++ U := List.drop_left' (by omega)
      have q3 : p * 35 + 35 ≤ T1.length + (q * 35 + U.length) := by omega
      have q4 : min 1 (q + 1) = 1 := by omega
      simp only [push_cast, seval, reduceCtorEq, hb, hb', k2, wrap_i64' (show -9223372036854775808 ≤ (n : Int) + 1 ∧ (n : Int) + 1 ≤ 9223372036854775807 by omega), m1, m2, m3, m4, wrap_i64' (show -9223372036854775808 ≤ (p : Int) + 1 ∧ (p : Int) + 1 ≤ 9223372036854775807 by omega), n1, n2, n3, n4, n5, n6, n7, n8, n9, i3, o1, o2, o3, h0, hoR, hlR, o4, o7, ← hT1, ← hU, q1, q2, q3, q4, hlx, i4, hoz, i1]
      exact ⟨[_], (List.nil_sublist _).cons_cons _, .inr ⟨U, rfl⟩⟩
theorem insertC0_ok {z : Ce} {b2 k2 : Nat} :
    CallsV Tryz.prog 110 [.slice none 0 0, .int .i64 0, .slice (some ⟨b2, 0, none⟩) 1 k2] [⟨b2, 0, .vec 74 35 1, z.cells⟩]
      (fun v N => OutG 74 35 ([z].flatMap Ce.cells) 1 v N) := by
  have hoz : (z.cells).all oneC = true := z.all1
  refine callsO gU4_ok Tryz.mix Tryz.pl110 Tryz.func110 rfl Tryz.ntmps110 Tryz.results110 rfl (by first | rfl | assumption) (Nat.le_of_ble_eq_true rfl) (by kernel_rfl) ?_
  simp only [push_cast, seval, reduceCtorEq, hoz, beq_self_eq_true]
  refine ⟨by unfold two47; decide, fun b' c' hbb hcc => ?_⟩
  refine ⟨[_], (List.nil_sublist _).cons_cons _, .inr ⟨b', c', rfl, hcc, ?_, ?_⟩⟩
  · rw [List.flatMap_cons, List.flatMap_nil, List.append_nil, Ce.len]
  · rw [List.flatMap_cons, List.flatMap_nil, List.append_nil]
end Go.Proofs.YtincedmdkdjakaaGreat
set_option linter.unusedSimpArgs false
set_option linter.unusedVariables false
namespace Go.Ev
theorem PlaceC.tail {x : Ce} {r : List Ce} {k : Ky} {i : Nat} (h : PlaceC (x :: r) k (i + 1)) : PlaceC r k i :=
  ⟨by have := h.le; rw [List.length_cons] at this; omega, fun j y hj hy => h.lo (j + 1) y (by omega) (by simpa using hy), fun j y hj hy => h.hi (j + 1) y (by omega) (by simpa using hy)⟩
theorem insC_is {c : Ce} : ∀ {L : List Ce} {i : Nat} {y : Ce}, PlaceC L c.key i → L[i]? = some y → y.key = c.key → insC c L = L.take i ++ c :: L.drop (i + 1)
  | [], i, y, _, hy, _ => by simp at hy
  | x :: r, 0, y, _, hy, hk => by
    obtain rfl : x = y := by simpa using hy
    unfold insC
    rw [if_neg (by rw [hk]; exact c.key.lt_irr), if_pos hk]; rfl
  | x :: r, i + 1, y, hp, hy, hk => by
    have h0 := hp.lo 0 x (Nat.succ_pos _) rfl
    unfold insC
    rw [if_neg (fun h => Ky.lt_asymm h0 h), if_neg (Ky.lt_ne h0), insC_is hp.tail (by simpa using hy) hk]; rfl
theorem insC_not {c : Ce} : ∀ {L : List Ce} {i : Nat}, PlaceC L c.key i → (¬ ∃ y, L[i]? = some y ∧ y.key = c.key) → insC c L = L.take i ++ c :: L.drop i
  | [], i, hp, _ => by
    obtain rfl : i = 0 := Nat.le_zero.1 hp.le
    rfl
  | x :: r, 0, hp, hn => by
    have h0 := hp.hi 0 x (Nat.le_refl _) rfl
    have h1 : x.key ≠ c.key := fun e => hn ⟨x, rfl, e⟩
    have h2 : c.key.lt x.key := by
      rcases Ky.tri x.key c.key with h | h | h
      · exact absurd h h0
      · exact absurd h h1
      · exact h
    unfold insC
    rw [if_pos h2]; rfl
  | x :: r, i + 1, hp, hn => by
    have h0 := hp.lo 0 x (Nat.succ_pos _) rfl
    unfold insC
    rw [if_neg (fun h => Ky.lt_asymm h0 h), if_neg (Ky.lt_ne h0), insC_not hp.tail (fun ⟨y, h1, h2⟩ => hn ⟨y, by simpa using h1, h2⟩)]; rfl
def VeO (e : Nat) (r : Vi × Int) : Value → Hp → Hp → Prop := fun v N1 H => ∃ u, v = .tuple #[u, .int .i64 r.2] ∧ ViO e r.1 u N1 H
theorem VeO.rd (e : Nat) (r : Vi × Int) : RdOwn (VeO e r) := by
  rintro v N1 A B h ⟨u, rfl, hu⟩
  exact ⟨u, rfl, ViO.rd _ _ _ _ _ _ h hu⟩
theorem VeO.r {e : Nat} {r : Vi × Int} {v : Value} {N1 H : Hp} (hf : freshN N1 H) (h : VeO e r v N1 H) : VeR r v (N1 ++ H) := by
  obtain ⟨u, rfl, hu⟩ := h
  exact ⟨u, rfl, hu.r hf⟩
theorem ceSets (l : List Ce) (k : Nat) (x : Ce) (hk : k < l.length) : List.take (k * 35) (l.flatMap Ce.cells) ++ (x.cells ++ List.drop (k * 35 + 35) (l.flatMap Ce.cells)) = (l.take k ++ x :: l.drop (k + 1)).flatMap Ce.cells := by
  have hd : ∀ (l : List Ce) (i : Nat), List.drop (i * 35) (l.flatMap Ce.cells) = (l.drop i).flatMap Ce.cells := by
    intro l
    induction l with
    | nil => intro i; simp
    | cons x r ih =>
      intro i
      cases i with
      | zero => simp
      | succ i => rw [List.flatMap_cons, Nat.succ_mul, Nat.add_comm, ← List.drop_drop, List.drop_left' (Ce.len x), ih, List.drop_succ_cons]
  have ht : ∀ (l : List Ce) (i : Nat), List.take (i * 35) (l.flatMap Ce.cells) = (l.take i).flatMap Ce.cells := by
    intro l
    induction l with
    | nil => intro i; simp
    | cons x r ih =>
      intro i
      cases i with
      | zero => simp
      | succ i => rw [List.flatMap_cons, Nat.succ_mul, Nat.add_comm, ← Ce.len x, List.take_length_add_append, Ce.len x, ih, List.take_succ_cons, List.flatMap_cons]
  rw [show k * 35 + 35 = (k + 1) * 35 by omega, hd, ht, List.flatMap_append, List.flatMap_cons]
theorem putV_bad {x : Vi} {c : Ce} (h : ¬ (RiV x ∧ mayC c)) : putV x c = (x, 1) := by unfold putV; rw [if_neg h]
theorem putV_not {x : Vi} {c : Ce} (h : RiV x ∧ mayC c) (h2 : c.key ∉ x.writes) : putV x c = (x, 30) := by unfold putV; rw [if_pos h, if_neg h2]
theorem putV_ok {x : Vi} {c : Ce} (h : RiV x ∧ mayC c) (h2 : c.key ∈ x.writes) : putV x c = (⟨x.base, x.reads, x.writes, insC c x.cells⟩, 0) := by unfold putV; rw [if_pos h, if_pos h2]
end Go.Ev
namespace Go.Proofs.YtincedmdkdjakaaGreat
open Go Go.Ev Go.Proofs
set_option maxRecDepth 100000
set_option maxHeartbeats 4000000
def plWr : Plans := fun i => if i = 1 then [(0, 9)] else if i = 2 then [(0, 9)] else if i = 3 then [(0, 9)] else if i = 5 then [(0, 9)] else if i = 7 then [(0, 9)] else Tryz.pl74 i
attribute [push_cast] plWr
theorem vwrite_ok {M : Hp} {x : Vi} {v : Value} {c : Ce} (hv : ViR x v M) (hb : x.Fit) : CallsW Tryz.prog 74 [v, c.v] M (VeO 74 (putV x c)) := by
  intro M0 hr he
  have hm := hr.marks
  replace hv := ViR.rd _ _ _ _ he.symm hv
  have hv0 := hv
  obtain ⟨vb, vr, vw, vc, rfl, h1, h2, h3, h4⟩ := hv
  obtain ⟨pb, kb, rfl⟩ := h1.slice
  obtain ⟨pr, kr, rfl⟩ := LiR.slice h2
  obtain ⟨pw, kw, rfl⟩ := LiR.slice h3
  obtain ⟨pc, kc, rfl⟩ := LiR.slice h4
  have hb0 := hb
  obtain ⟨n1, n2, n3, n4, n5⟩ := hb
  refine callsO gU4_ok Tryz.mix plWr Tryz.func74 rfl Tryz.ntmps74 Tryz.results74 rfl (by first | rfl | assumption) (Nat.le_of_ble_eq_true rfl) (by kernel_rfl) ?_
  simp only [push_cast, seval, reduceCtorEq]
  intro b2 hb2 b3 hb3 b4 hb4
  have f2 : fresh b2 M0 := hb2
  have f3 : fresh b3 M0 := hb3.2.2
  have f4 : fresh b4 M0 := hb4.2.2.2.2
  refine regO gU4_ok ?_
  simp only [push_cast, seval, reduceCtorEq, hb3, hb4]
  refine useB [_, _, _] (vown_ok hv0 hb0) (ViO.rd _ _) hm ⟨f4, f3, f2, trivial⟩ fun u N M1 hg hf hL1 hw hm1 hq => ?_
  have hq0 := hq
  obtain ⟨ub, ur, uw, uc, rfl, g1, g2, g3, g4⟩ := hq
  obtain ⟨qb, lb, rfl⟩ := StR.slice g1
  obtain ⟨qr, lr, rfl⟩ := LiR.slice g2
  obtain ⟨qw, lw, rfl⟩ := LiR.slice g3
  obtain ⟨qc, lc, rfl⟩ := OutG.slice g4
  simp only [push_cast, seval, reduceCtorEq, hb3, hb4]
  intro b6 hb6
  have hvN : ViR x (.agg #[.slice pb x.base.length kb, .slice pr x.reads.length kr, .slice pw x.writes.length kw, .slice pc x.cells.length kc]) (N ++ M1) := (hv0.ext hg.ext).find (find_behind hf)
  have hseN : SeR x.reads x.writes (.agg #[.slice pr x.reads.length kr, .slice pw x.writes.length kw]) (N ++ M1) := ⟨_, _, rfl, LiR.find (find_behind hf) (LiR.ext hg.ext h2), LiR.find (find_behind hf) (LiR.ext hg.ext h3)⟩
  have f6 : fresh b6 (N ++ M1) := hb6.2.2.2.2.2.2
  have hL : ∀ e6 e4 e3 e2 : Ent, e6.blk = b6 → e4.blk = b4 → e3.blk = b3 → e2.blk = b2 → freshN [e6, e4, e3, e2] (N ++ M1) := fun e6 e4 e3 e2 h6 h4 h3 h2 => ⟨h6 ▸ f6, h4 ▸ hL1.1, h3 ▸ hL1.2.1, h2 ▸ hL1.2.2.1, trivial⟩
  refine regO gU4_ok ?_
  simp only [push_cast, seval, reduceCtorEq, hb3, hb4, hb6]
  refine useP [_, _, _, _] (vright_R hvN hb0) (hL _ _ _ _ rfl rfl rfl rfl) ?_
  cases hri : pB (RiV x)
  · rw [putV_bad (fun h => pB_not.1 hri h.1)]
    simp only [push_cast, seval, reduceCtorEq, hb3, hb4, hb6]
    exact doneN [_, _, _, _] hg hw hm1 hf (VeO.rd _ _) ⟨_, rfl, hq0⟩
  have hrv := pB_iff.1 hri
  simp only [push_cast, seval, reduceCtorEq, hb3, hb4, hb6]
  refine regO gU4_ok ?_
  obtain ⟨my, hmy⟩ : ∃ q, mayCB c = q := ⟨_, rfl⟩
  cases my
  · rw [putV_bad (fun h => pB_not.1 hmy h.2)]
    simp only [push_cast, seval, reduceCtorEq, hb3, hb4, hb6, hmy]
    exact doneN [_, _, _, _] hg hw hm1 hf (VeO.rd _ _) ⟨_, rfl, hq0⟩
  have hmc : RiV x ∧ mayC c := ⟨hrv, pB_iff.1 hmy⟩
  simp only [push_cast, seval, reduceCtorEq, hb3, hb4, hb6, hmy]
  refine regO gU4_ok ?_
  simp only [push_cast, seval, reduceCtorEq, hb3, hb4, hb6]
  refine useP [_, _, _, _] (amay_R hseN (by omega) (by omega)) (hL _ _ _ _ rfl rfl rfl rfl) ?_
  rw [mayB_w]
  by_cases hw2 : c.key ∈ x.writes
  case neg =>
    rw [putV_not hmc hw2]
    simp only [push_cast, seval, reduceCtorEq, hb3, hb4, hb6, decide_eq_false hw2]
    exact doneN [_, _, _, _] hg hw hm1 hf (VeO.rd _ _) ⟨_, rfl, hq0⟩
  rw [putV_ok hmc hw2]
  simp only [push_cast, seval, reduceCtorEq, hb3, hb4, hb6, decide_eq_true hw2]
  refine regO gU4_ok ?_
  simp only [push_cast, seval, reduceCtorEq, hb3, hb4, hb6]
  refine useVL [_, _, _, _] (Q := fun u => ∃ i, PlaceC x.cells c.key i ∧ u = .tuple #[.int .i64 i, .bool (decide (∃ y, x.cells[i]? = some y ∧ y.key = c.key))]) (fun M2 hr2 he2 => vfind_ok (a := c) hr2 (by omega) (LiR.congr he2.symm (OutG.liR g4 rfl rfl M1)) hrv.srt) (hL _ _ _ _ rfl rfl rfl rfl) ?_
  rintro u ⟨i, hi, rfl⟩
  have hile := hi.le
  by_cases his : ∃ y, x.cells[i]? = some y ∧ y.key = c.key
  · have hd : decide (∃ y, x.cells[i]? = some y ∧ y.key = c.key) = true := decide_eq_true his
    obtain ⟨y, hy, hyk⟩ := his
    rw [insC_is hi hy hyk]
    have hil := (List.getElem?_eq_some_iff.1 hy).1
    rcases g4 with ⟨h0, -⟩ | ⟨b, c', hvv, hcc, hcl, rfl⟩
    · omega
    cases hvv
    have a1 : i * 35 + 35 ≤ (x.cells.flatMap Ce.cells).length := by rw [hcl]; omega
    have a2 := ceSets x.cells i c hil
    have hfin : OutG 74 35 ((x.cells.take i ++ c :: x.cells.drop (i + 1)).flatMap Ce.cells) (x.cells.take i ++ c :: x.cells.drop (i + 1)).length (.slice (some ⟨b, 0, none⟩) x.cells.length lc) [⟨b, 0, .vec 74 35 lc, (x.cells.take i ++ c :: x.cells.drop (i + 1)).flatMap Ce.cells⟩] := by
      have hlen : (x.cells.take i ++ c :: x.cells.drop (i + 1)).length = x.cells.length := by
        rw [List.length_append, List.length_cons, List.length_take, List.length_drop]; omega
      refine .inr ⟨b, lc, by rw [hlen], by rw [hlen]; exact hcc, flatMap_len (fun y => y.len) _, rfl⟩
    have i1 : (i : Int) < (x.cells.length : Int) := by omega
    have d4 := hL1.1
    have d3 := hL1.2.1
    have d2 := hL1.2.2.1
    have d6 := f6
    simp only [push_cast, seval, reduceCtorEq, List.append_eq, List.cons_append, List.nil_append] at d2 d3 d4 d6
    simp only [push_cast, seval, reduceCtorEq, hb3, hb4, hb6, hd, i1, hil, a1, a2, d2, d3, d4, d6, List.append_eq, List.cons_append, List.nil_append]
    exact doneN [_, _, _, _] (N1 := [⟨b, 0, .vec 74 35 lc, (x.cells.take i ++ c :: x.cells.drop (i + 1)).flatMap Ce.cells⟩]) hg ⟨trivial, trivial⟩ rfl ⟨hf.1, trivial⟩ (VeO.rd _ _) ⟨_, rfl, _, _, _, _, rfl, g1, g2, g3, hfin⟩
  · have hd : decide (∃ y, x.cells[i]? = some y ∧ y.key = c.key) = false := decide_eq_false his
    rw [insC_not hi his]
    have hlen : (x.cells.take i ++ c :: x.cells.drop i).length = x.cells.length + 1 := by
      rw [List.length_append, List.length_cons, List.length_take, List.length_drop]; omega
    simp only [push_cast, seval, reduceCtorEq, hb3, hb4, hb6, hd]
    intro b8 hb8
    rcases g4 with ⟨h0, h0', hvv, rfl⟩ | ⟨b, c', hvv, hcc, hcl, rfl⟩
    · simp only [Value.slice.injEq] at hvv
      obtain ⟨rfl, -, rfl⟩ := hvv
      have hnil : x.cells = [] := List.length_eq_zero_iff.1 h0
      obtain rfl : i = 0 := by omega
      have hins := insertC0_ok (z := c) (b2 := b8) (k2 := 1)
      rw [hnil]
      simp only [List.length_nil, List.take_nil, List.drop_nil, List.nil_append]
      refine CallsV.useMs (Hw := [⟨b8, 0, .vec 74 35 1, c.cells⟩]) (Hf := []) hins (fun e he => by rw [List.mem_singleton.1 he]; rfl) trivial ?_
      intro v2 N2 ho2
      refine ⟨ho2.wr.1, ho2.wr.2, fun hf2 => ?_⟩
      rcases ho2 with ⟨y1, -⟩ | ⟨bn, cn, hvn, hcn, hln, rfl⟩
      · omega
      have hq2 := hf2.1
      subst hvn
      simp only [push_cast, seval, reduceCtorEq, List.append_eq, List.cons_append, List.nil_append] at hq2
      simp only [push_cast, seval, reduceCtorEq, hb3, hb4, hb6, hq2, List.append_eq, List.cons_append, List.nil_append]
      have hfin : VeO 74 (⟨x.base, x.reads, x.writes, [c]⟩, 0) (.tuple #[.agg #[.slice qb x.base.length lb, .slice qr x.reads.length lr, .slice qw x.writes.length lw, .slice (some ⟨bn, 0, none⟩) 1 cn], .int .i64 0]) [⟨bn, 0, .vec 74 35 cn, [c].flatMap Ce.cells⟩] M1 := ⟨_, rfl, _, _, _, _, rfl, g1, g2, g3, .inr ⟨bn, cn, rfl, hcn, hln, rfl⟩⟩
      exact doneS (N1 := [⟨bn, 0, .vec 74 35 cn, [c].flatMap Ce.cells⟩]) hg ⟨trivial, trivial⟩ rfl ⟨hq2.2.2.2.2.2.2.2.2, trivial⟩ (VeO.rd _ _) hfin (((((List.Sublist.refl _).cons _).cons _).cons _).cons _ |>.cons_cons _)
    · cases hvv
      have hpl : (x.cells.take i).length = i := by rw [List.length_take]; omega
      obtain ⟨q, hq⟩ : ∃ q, q = x.cells.length - i := ⟨_, rfl⟩
      have hpr : (x.cells.drop i).length = q := by rw [List.length_drop, hq]
      have hb88 : ¬ b = b8 := Ne.symm (fun e => (fresh_app_iff.1 hb8.2.2.2.2.2.2.2.2).1.1 e)
      have hins := insertC_ok (P := x.cells.take i) (R := x.cells.drop i) (z := c) (b := b) (b2 := b8) (c := lc) (n := x.cells.length) (p := i) (q := q) (k2 := 1) hpl hpr (by omega) hcc (by omega) hb88
      rw [List.take_append_drop] at hins
      refine CallsV.pre (H' := ⟨b, 0, .vec 74 35 lc, x.cells.flatMap Ce.cells⟩ :: ⟨b8, 0, .vec 74 35 1, c.cells⟩ :: _) (List.perm_middle (l₁ := [_, _, _, _, _])) (by simp [marksOf]) ?_
      refine CallsV.useMs (Hw := [⟨b, 0, .vec 74 35 lc, x.cells.flatMap Ce.cells⟩, ⟨b8, 0, .vec 74 35 1, c.cells⟩]) (Hf := []) hins (fun e he => by
        rcases List.mem_cons.1 he with rfl | he
        · rfl
        · rw [List.mem_singleton.1 he]; rfl) trivial ?_
      intro v2 N2 ho2
      refine ⟨ho2.wr.1, ho2.wr.2, fun hf2 => ?_⟩
      rcases ho2 with ⟨y1, -⟩ | ⟨bn, cn, hvn, hcn, hln, rfl⟩
      · omega
      have hq2 := hf2.1
      subst hvn
      simp only [push_cast, seval, reduceCtorEq, List.append_eq, List.cons_append, List.nil_append] at hq2
      simp only [push_cast, seval, reduceCtorEq, hb3, hb4, hb6, hq2, List.append_eq, List.cons_append, List.nil_append]
      have hfin : VeO 74 (⟨x.base, x.reads, x.writes, (x.cells.take i ++ c :: x.cells.drop i)⟩, 0) (.tuple #[.agg #[.slice qb x.base.length lb, .slice qr x.reads.length lr, .slice qw x.writes.length lw, .slice (some ⟨bn, 0, none⟩) (x.cells.length + 1) cn], .int .i64 0]) [⟨bn, 0, .vec 74 35 cn, (x.cells.take i ++ c :: x.cells.drop i).flatMap Ce.cells⟩] M1 := ⟨_, rfl, _, _, _, _, rfl, g1, g2, g3, .inr ⟨bn, cn, by rw [hlen], by rw [hlen]; exact hcn, by rw [hlen]; exact hln, rfl⟩⟩
      exact doneS (N1 := [⟨bn, 0, .vec 74 35 cn, (x.cells.take i ++ c :: x.cells.drop i).flatMap Ce.cells⟩]) hg ⟨trivial, trivial⟩ rfl ⟨hq2.2.2.2.2.2.2.2.2, trivial⟩ (VeO.rd _ _) hfin (((((List.Sublist.refl _).cons _).cons _).cons _).cons _ |>.cons_cons _)
theorem vwrite_R {M : Hp} {x : Vi} {v : Value} {c : Ce} (hv : ViR x v M) (hb : x.Fit) : CallsR Tryz.prog 74 [v, c.v] M (VeR (putV x c)) :=
  (vwrite_ok hv hb).toR fun v N1 A _ _ hf hq => hq.r hf
end Go.Proofs.YtincedmdkdjakaaGreat
