/- Texts of this claim, merged by program: Oi Oj Ol Om Rj On Oq. -/
import Derived.Test.YtolmipnaheifcaaDoorZdAj
import Derived.Test.YtolmipnaheifcaaDoorZdAh
import Derived.Test.YtolmipnaheifcaaDoorZdAf
import Derived.Test.YtolmipnaheifcaaDoorZdAg
set_option linter.unusedSimpArgs false
set_option linter.unusedVariables false
namespace Go.Ev
noncomputable def sameI (x y : It) : Bool := @decide (x = y) (Classical.propDecidable _)
noncomputable def samesI (x y : List It) : Bool := @decide (x = y) (Classical.propDecidable _)
theorem sameI_t {x y : It} (h : x = y) : sameI x y = true := by unfold sameI; exact @decide_eq_true _ (Classical.propDecidable _) h
theorem sameI_f {x y : It} (h : ¬ x = y) : sameI x y = false := by unfold sameI; exact @decide_eq_false _ (Classical.propDecidable _) h
theorem samesI_t {x y : List It} (h : x = y) : samesI x y = true := by unfold samesI; exact @decide_eq_true _ (Classical.propDecidable _) h
theorem samesI_f {x y : List It} (h : ¬ x = y) : samesI x y = false := by unfold samesI; exact @decide_eq_false _ (Classical.propDecidable _) h
theorem sameI_eq (x y : It) : sameI x y = (x.list == y.list && (x.bytes == y.bytes && samesI x.kids y.kids)) := by
  obtain ⟨l, b, k⟩ := x
  obtain ⟨l', b', k'⟩ := y
  show _ = (l == l' && (b == b' && samesI k k'))
  by_cases h1 : l = l'
  case neg => rw [sameI_f (fun h => by injection h with h; exact h1 h), beq_eq_false_iff_ne.2 h1, Bool.false_and]
  by_cases h2 : b = b'
  case neg => rw [sameI_f (fun h => by injection h with _ h; exact h2 h), beq_eq_false_iff_ne.2 h2, Bool.false_and, Bool.and_false]
  rw [h1, h2, beq_self_eq_true, beq_self_eq_true, Bool.true_and, Bool.true_and]
  rcases Classical.em (k = k') with h3 | h3
  · rw [samesI_t h3, sameI_t (by rw [h3])]
  · rw [samesI_f h3, sameI_f (fun h => by injection h with _ _ h; exact h3 h)]
noncomputable def encD (x : It) : List UInt8 × Int := if rightI x = true then (if (encL x).length ≤ 1048576 then (encL x, 0) else ([], 2)) else ([], 1)
def noZ (b : List UInt8) : Bool := b.headD 1 == 0
noncomputable def valP (l : Bool) (b : List UInt8) (n : Nat) : W × Bool :=
  if l = true ∨ 0 < n ∨ 32 < b.length ∨ noZ b = true then (W.zero, false) else (frombW b, true)
noncomputable def rvalG : List Value → Option Value
  | [.agg ⟨[.bool l, .string b, .slice p n c]⟩] => if n ≤ 1099511627776 ∧ b.size ≤ 1099511627776 then some (.tuple #[(valP l b.data.toList n).1.v, .bool (valP l b.data.toList n).2]) else none
  | _ => none
noncomputable def hasZG : List Value → Option Value
  | [.string s, .string t] => if t.data.toList = [0] then some (.bool (noZ s.data.toList)) else none
  | _ => none
attribute [push_cast] rvalG hasZG
end Go.Ev
namespace Go.Proofs.YtolmipnaheifcaaDoor
open Go Go.Ev Go.Proofs
set_option maxRecDepth 100000
set_option maxHeartbeats 4000000
theorem hasZ0_ok (l : List UInt8) : CallsV Tryd.prog 53 [.string (bs l), .string (bs [0])] [] (Ret0 (.bool (noZ l))) := by
  have e0 : (bs [0]).toList = [0] := bs_toList _
  have e2 : ([0] : List UInt8).length = 1 := rfl
  refine callsO gO2_ok Tryd.mix Tryd.pl53 Tryd.func53 rfl Tryd.ntmps53 Tryd.results53 rfl (by first | rfl | assumption) (Nat.le_of_ble_eq_true rfl) (by kernel_rfl) ?_
  cases l with
  | nil =>
    have d1 : ¬ (1 : Int) ≤ 0 := by decide
    have d2 : ([] : List UInt8).length = 0 := rfl
    have d3 : noZ [] = false := rfl
    simp only [push_cast, seval, reduceCtorEq, e2, d1, d2, d3]
  | cons y r =>
    obtain ⟨z, hz⟩ : ∃ z, z = y :: r := ⟨_, rfl⟩
    have zl : z.length = r.length + 1 := by rw [hz]; rfl
    have c2 : 1 ≤ z.length := by omega
    have c4 : (1 : Int) ≤ (z.length : Int) := by omega
    have tk : List.take 1 z = [y] := by rw [hz]; rfl
    have nz : noZ z = (y == 0) := by rw [hz]; rfl
    have e5 : (([y] : List UInt8) == [0]) = (y == 0) := by simp
    rw [← hz]
    simp only [push_cast, seval, reduceCtorEq, e0, e2, c2, c4, tk, nz, e5]
theorem hasZ1_ok (l : List UInt8) : CallsV Tryd.prog 31 [.string (bs l), .string (bs [0])] [] (Ret0 (.bool (noZ l))) := by
  refine callsO gO2_ok Tryd.mix Tryd.pl31 Tryd.func31 rfl Tryd.ntmps31 Tryd.results31 rfl (by first | rfl | assumption) (Nat.le_of_ble_eq_true rfl) (by kernel_rfl) ?_
  simp only [push_cast, seval, reduceCtorEq]
  refine (hasZ0_ok l).pure trivial ?_
  simp only [push_cast, seval, reduceCtorEq]
theorem hasZG_ok (args : List Value) (v : Value) (h : hasZG args = some v) : CallsV Tryd.prog 31 args [] (Ret0 v) := by
  unfold hasZG at h
  split at h
  · split at h
    · rename_i s t ht
      cases h
      obtain ⟨l, rfl⟩ := bs_of s
      obtain ⟨m, rfl⟩ := bs_of t
      rw [bs_data] at ht
      rw [ht, bs_data]
      exact hasZ1_ok l
    · cases h
  · cases h
noncomputable def gO3 : Gam := (addG 31 hasZG gO2)
attribute [push_cast] gO3
theorem gO3_ok : GamOk Tryd.prog gO3 := (addG_ok hasZG_ok gO2_ok)
attribute [push_cast] gO3
theorem rval_ok (l : Bool) (b : List UInt8) (p : Option Addr) (n c : Nat) (hn : n ≤ 1099511627776) (hb : b.length ≤ 1099511627776) : CallsV Tryd.prog 16 [.agg #[.bool l, .string (bs b), .slice p n c]] [] (Ret0 (.tuple #[(valP l b n).1.v, .bool (valP l b n).2])) := by
  obtain ⟨R, hR⟩ : ∃ R, R = valP l b n := ⟨_, rfl⟩
  rw [← hR]
  unfold valP at hR
  have e0 : (bs [0]).data.toList = [0] := bs_data _
  refine callsO gO3_ok Tryd.mix (fun i => if i = 1 then [(0, 9)] else Tryd.pl16 i) Tryd.func16 rfl Tryd.ntmps16 Tryd.results16 rfl (by first | rfl | assumption) (Nat.le_of_ble_eq_true rfl) (by kernel_rfl) ?_
  simp only [push_cast, seval, reduceCtorEq]
  intro b1 b2 hb2
  refine regO gO3_ok ?_
  have z4 : (W.zero.v) = .agg W.zero.cells.toArray := rfl
  cases l with
  | true =>
    rw [if_pos (.inl rfl)] at hR
    simp only [push_cast, seval, reduceCtorEq, hb2]
    rw [hR]
  | false =>
    by_cases c1 : 0 < n
    · have d1 : (0 : Int) < (n : Int) := by omega
      rw [if_pos (.inr (.inl c1))] at hR
      simp only [push_cast, seval, reduceCtorEq, hb2, d1]
      rw [hR]
    have d1 : ¬ (0 : Int) < (n : Int) := by omega
    by_cases c2 : 32 < b.length
    · have d2 : (32 : Int) < (b.length : Int) := by omega
      rw [if_pos (.inr (.inr (.inl c2)))] at hR
      simp only [push_cast, seval, reduceCtorEq, hb2, d1, d2]
      rw [hR]
    have d2 : ¬ (32 : Int) < (b.length : Int) := by omega
    cases hz : noZ b with
    | true =>
      rw [if_pos (.inr (.inr (.inr hz)))] at hR
      simp only [push_cast, seval, reduceCtorEq, hb2, d1, d2, e0, hz]
      rw [hR]
    | false =>
      rw [if_neg (by rw [hz]; rintro (h | h | h | h) <;> first | omega | cases h)] at hR
      have hsz : szB b.length = true := szB_in (by omega)
      simp only [push_cast, seval, reduceCtorEq, hb2, d1, d2, e0, hz, hsz]
      rw [hR]
theorem rvalG_ok (args : List Value) (v : Value) (h : rvalG args = some v) : CallsV Tryd.prog 16 args [] (Ret0 v) := by
  unfold rvalG at h
  split at h
  · split at h
    · rename_i l b p n c hn
      cases h
      obtain ⟨m, rfl⟩ := bs_of b
      rw [bs_data]
      exact rval_ok l m p n c hn.1 hn.2
    · cases h
  · cases h
theorem iteqF_ok {M : Hp} {ks ls : List Iv} {v u : Value} (hv : LiR Iv.cells 3 M ks v) (hu : LiR Iv.cells 3 M ls u) (hm : marksOf M = []) (hn : ks.length ≤ 1099511627776) (hn2 : ls.length ≤ 1099511627776) (o1 : ∀ k ∈ ks, oneC k.sv = true) (o2 : ∀ k ∈ ls, oneC k.sv = true)
    (hc : ∀ k ∈ ks, ∀ l ∈ ls, ∀ M1, roM M1 → cellsAt M1 = cellsAt M → CallsV Tryd.prog 18 [k.v, l.v] M1 (Ret0 (.bool (sameI k.it l.it)))) :
    CallsV Tryd.prog 33 [v, u, .func (.func 18) #[] #[]] M (Ret0 (.bool (samesI (ks.map Iv.it) (ls.map Iv.it)))) := by
  obtain ⟨p, k, rfl, hla⟩ := hv.openC Iv.len (by decide)
  obtain ⟨q, n, rfl, hra⟩ := hu.openC Iv.len (by decide)
  refine callsO gO3_ok Tryd.mix Tryd.pl33 Tryd.func33 rfl Tryd.ntmps33 Tryd.results33 rfl (by first | rfl | assumption) (Nat.le_of_ble_eq_true rfl) (by kernel_rfl) ?_
  by_cases hl : ks.length = ls.length
  case neg =>
    have e : samesI (ks.map Iv.it) (ls.map Iv.it) = false := samesI_f fun h => hl (by have := congrArg List.length h; rwa [List.length_map, List.length_map] at this)
    have e1 : (((ks.length : Nat) : Int) != ((ls.length : Nat) : Int)) = true := by rw [bne_iff_ne]; omega
    simp only [push_cast, seval, reduceCtorEq, e, e1]
  have e1 : (((ks.length : Nat) : Int) != ((ls.length : Nat) : Int)) = false := by rw [hl]; exact bne_self_eq_false _
  simp only [push_cast, seval, reduceCtorEq, e1]
  refine loopO gO3_ok (pl := Tryd.pl33) Tryd.mix (X := Nat)
    (fun i => ([(0, .slice p ks.length k), (1, .slice q ls.length n), (15, .slice p ks.length k), (16, .int .i64 ks.length), (2, .func (.func 18) #[] #[]), (17, .int .i64 i)], M))
    (fun i => i ≤ ks.length ∧ (ks.take i).map Iv.it = (ls.take i).map Iv.it) (fun i => ks.length - i) 0 ?_ ?_ (by kernel_rfl) ?_
  · exact ⟨Nat.zero_le _, rfl⟩
  · simp only [push_cast, seval, reduceCtorEq]
  · rintro i ⟨hi, ht⟩
    dsimp only at hi ht ⊢
    rcases Nat.lt_or_ge i ks.length with hlt | hge
    · obtain ⟨x, hx⟩ : ∃ x, ks[i]? = some x := ⟨ks[i], List.getElem?_eq_getElem hlt⟩
      obtain ⟨y, hy⟩ : ∃ y, ls[i]? = some y := ⟨ls[i]'(by omega), List.getElem?_eq_getElem (by omega)⟩
      rcases hla with rfl | ⟨b, f, d, kd, cs, rfl, he, hat⟩
      · simp at hx
      rcases hra with rfl | ⟨b', f', d', kd', cs', rfl, he', hat'⟩
      · simp at hy
      have hxm := List.mem_of_getElem? hx
      have hym := List.mem_of_getElem? hy
      obtain ⟨a1, a2⟩ := hat i x hx
      obtain ⟨b1, b2⟩ := hat' i y hy
      have a0 : x.cells.all oneC = true := Iv.all1 (o1 x hxm)
      have b0 : y.cells.all oneC = true := Iv.all1 (o2 y hym)
      have x3 : List.take 3 x.cells = x.cells := rfl
      have y3 : List.take 3 y.cells = y.cells := rfl
      have xv : Value.agg x.cells.toArray = x.v := rfl
      have yv : Value.agg y.cells.toArray = y.v := rfl
      have i1 : (i : Int) < (ks.length : Int) := by omega
      have i2 : (i : Int) < (ls.length : Int) := by omega
      have i3 : i < ls.length := by omega
      simp only [push_cast, seval, reduceCtorEq, i1, i2, i3, hlt, he, a1, a2, a0, Iv.len, x3]
      intro b8 hb8
      have d1 := (fresh_findS hb8 he').2
      try simp only [push_cast, seval, reduceCtorEq, i1, i2, i3, hlt, he, he', a1, a2, b1, b2, d1, hb8, a0, b0, Iv.len, x3, y3]
      intro b9 hb9
      try simp only [push_cast, seval, reduceCtorEq, hb8, hb9, a0, b0, Iv.len, x3, y3, xv, yv]
      refine useP [_, _] (fun M1 hr1 he1 => hc x hxm y hym M1 hr1 he1) ⟨hb9.2.2, hb8, trivial⟩ ?_
      by_cases hxy : x.it = y.it
      · simp only [push_cast, seval, reduceCtorEq, sameI_t hxy, wrap_i64' (show -9223372036854775808 ≤ (i : Int) + 1 ∧ (i : Int) + 1 ≤ 9223372036854775807 by omega)]
        refine ⟨i + 1, ⟨hlt, ?_⟩, by omega, rfl, ?_⟩
        · rw [List.take_add_one, List.take_add_one, hx, hy, List.map_append, List.map_append, ht]
          simp [hxy]
        · exact subH_skip6 hb9.2.2 (subH_skip6 hb8 (subH_self _))
      · have e : samesI (ks.map Iv.it) (ls.map Iv.it) = false := samesI_f fun h => hxy (by
          have h1 : (ks.map Iv.it)[i]? = some x.it := by rw [List.getElem?_map, hx]; rfl
          have h2 : (ls.map Iv.it)[i]? = some y.it := by rw [List.getElem?_map, hy]; rfl
          rw [h, h2] at h1
          exact (Option.some.inj h1).symm)
        simp only [push_cast, seval, reduceCtorEq, sameI_f hxy, e]
    · obtain rfl : i = ks.length := by omega
      have e : samesI (ks.map Iv.it) (ls.map Iv.it) = true := samesI_t (by
        rw [List.take_length, hl, List.take_length] at ht; exact ht)
      simp only [push_cast, seval, reduceCtorEq, Nat.lt_irrefl, Int.lt_irrefl, e]
theorem rsame_ok (x : Iv) : ∀ (y : Iv) (M0 : Hp), roM M0 → IvOk M0 x → IvOk M0 y → CallsV Tryd.prog 18 [x.v, y.v] M0 (Ret0 (.bool (sameI x.it y.it))) := by
  induction x using Iv.ind with
  | h x ih =>
    intro y M0 hr hx hy
    have hm := hr.marks
    have e := sameI_eq x.it y.it
    rw [Iv.it_list, Iv.it_list, Iv.it_bytes, Iv.it_bytes, Iv.it_kids, Iv.it_kids] at e
    have hlx := hx.li
    have hly := hy.li
    have hc : ∀ k ∈ x.kids, ∀ l ∈ y.kids, ∀ M1, roM M1 → cellsAt M1 = cellsAt M0 → CallsV Tryd.prog 18 [k.v, l.v] M1 (Ret0 (.bool (sameI k.it l.it))) := fun k hk l hl M1 hr1 he1 => ih k hk l M1 hr1 ((hx.kid k hk).congr he1.symm) ((hy.kid l hl).congr he1.symm)
    have o1 : ∀ k ∈ x.kids, oneC k.sv = true := fun k hk => (hx.kid k hk).one
    have o2 : ∀ k ∈ y.kids, oneC k.sv = true := fun k hk => (hy.kid k hk).one
    have nx := hx.len
    have ny := hy.len
    obtain ⟨xl, xb, xs, xk⟩ := x
    obtain ⟨yl, yb, ys, yk⟩ := y
    replace hlx : LiR Iv.cells 3 M0 xk xs := hlx
    replace hly : LiR Iv.cells 3 M0 yk ys := hly
    obtain ⟨p, c, rfl, -⟩ := id hlx
    obtain ⟨p', c', rfl, -⟩ := id hly
    show CallsV Tryd.prog 18 [.agg #[.bool xl, .string (bs xb), .slice p xk.length c], .agg #[.bool yl, .string (bs yb), .slice p' yk.length c']] M0 _
    replace e : sameI (Iv.mk xl xb (.slice p xk.length c) xk).it (Iv.mk yl yb (.slice p' yk.length c') yk).it = (xl == yl && (xb == yb && samesI (xk.map Iv.it) (yk.map Iv.it))) := e
    rw [e]
    refine callsO gO3_ok Tryd.mix (fun i => if i = 1 then [(0, 9)] else Tryd.pl18 i) Tryd.func18 rfl Tryd.ntmps18 Tryd.results18 rfl (by first | rfl | assumption) (Nat.le_of_ble_eq_true rfl) (by kernel_rfl) ?_
    simp only [push_cast, seval, reduceCtorEq]
    intro b2 hb2 b3 hb3
    refine regO gO3_ok ?_
    by_cases c1 : xl = yl
    case neg =>
      have d1 : (xl == yl) = false := beq_eq_false_iff_ne.2 c1
      simp only [push_cast, seval, reduceCtorEq, hb3, d1]
    have d1 : (xl == yl) = true := by rw [c1]; exact beq_self_eq_true _
    by_cases c2 : xb = yb
    case neg =>
      have d2 : (xb == yb) = false := beq_eq_false_iff_ne.2 c2
      simp only [push_cast, seval, reduceCtorEq, hb3, d1, d2]
    have d2 : (xb == yb) = true := by rw [c2]; exact beq_self_eq_true _
    simp only [push_cast, seval, reduceCtorEq, hb3, d1, d2]
    refine useP [_, _] (fun M1 hr1 he1 => iteqF_ok (hlx.congr he1.symm) (hly.congr he1.symm) hr1.marks nx ny o1 o2 fun k hk l hl M2 hr2 he2 => hc k hk l hl M2 hr2 (he2.trans he1)) ⟨hb3.2.2, hb2, trivial⟩ ?_
    simp only [push_cast, seval, reduceCtorEq]
theorem rsame_R {M : Hp} {x y : Iv} (hx : IvOk M x) (hy : IvOk M y) : ∀ M0, roM M0 → cellsAt M0 = cellsAt M → CallsV Tryd.prog 18 [x.v, y.v] M0 (Ret0 (.bool (sameI x.it y.it))) := fun M0 hr he => rsame_ok x y M0 hr (hx.congr he.symm) (hy.congr he.symm)
theorem rright_R {M : Hp} {x : Iv} (hx : IvOk M x) : ∀ M0, roM M0 → cellsAt M0 = cellsAt M → CallsV Tryd.prog 14 [x.v] M0 (Ret0 (.bool (rightI x.it))) := fun M0 hr he => rright_ok hr (hx.congr he.symm)
theorem renc_R {M : Hp} {x : Iv} (hx : IvOk M x) (hl : (encL x.it).length ≤ 1099511627776) : ∀ M0, roM M0 → cellsAt M0 = cellsAt M → CallsV Tryd.prog 13 [x.v] M0 (Ret0 (.tuple #[.string (bs (encD x.it).1), .int .i64 (encD x.it).2])) := by
  intro M0 hr he
  have hx0 := hx.congr he.symm
  have hm := hr.marks
  have il : x.cells.length = 3 := rfl
  have it3 : List.take 3 x.cells = x.cells := List.take_of_length_le (Nat.le_of_eq rfl)
  have xv : x.v.cells.toList = x.cells := rfl
  have xall : x.cells.all oneC = true := Iv.all1 hx0.one
  refine callsO gO3_ok Tryd.mix Tryd.pl13 Tryd.func13 rfl Tryd.ntmps13 Tryd.results13 rfl (by first | rfl | assumption) (Nat.le_of_ble_eq_true rfl) (by kernel_rfl) ?_
  simp only [push_cast, seval, reduceCtorEq, xv, xall, il]
  intro b1 hb1
  try simp only [push_cast, seval, reduceCtorEq, il, it3]
  refine useP [_] (v := .bool (rightI x.it)) (fun M1 hr1 he1 => rright_ok hr1 (hx0.congr he1.symm)) ⟨hb1, trivial⟩ ?_
  cases hri : rightI x.it with
  | false =>
    simp only [push_cast, seval, reduceCtorEq, il, it3]
    unfold encD
    rw [hri]
    rfl
  | true =>
    simp only [push_cast, seval, reduceCtorEq, il, it3]
    refine useP [_] (fun M1 hr1 he1 => encode_ok x M1 hr1 (hx0.congr he1.symm) hl) ⟨hb1, trivial⟩ ?_
    have hz : (bs (encL x.it)).size = (encL x.it).length := rfl
    rcases Nat.lt_or_ge 1048576 (encL x.it).length with h | h
    · have h' : (1048576 : Int) < ((encL x.it).length : Int) := by omega
      simp only [push_cast, seval, reduceCtorEq, hz, h']
      unfold encD
      rw [hri, if_pos rfl, if_neg (by omega)]
      rfl
    · have h' : ¬ (1048576 : Int) < ((encL x.it).length : Int) := by omega
      simp only [push_cast, seval, reduceCtorEq, hz, h']
      unfold encD
      rw [hri, if_pos rfl, if_pos h]
end Go.Proofs.YtolmipnaheifcaaDoor
set_option linter.unusedSimpArgs false
set_option linter.unusedVariables false
namespace Go.Ev
theorem takeP6 {P : Program} {g : FuncId} {args : List Value} (L : Hp) {M : Hp} {v : Value} {K : Value → Prop} (hc : ∀ M0, roM M0 → cellsAt M0 = cellsAt M → CallsV P g args M0 (Ret0 v)) (hL : freshN L M) (hk : K v) : TakeV P g args (L ++ M) K := TakeV.mk (derE_behind hL) (hc (roAll M) (roAll_ro M) (cellsAt_roAll M)) hk
theorem frombL_num (w : W) : frombW (numL w) = w := by
  refine W.num_inj ?_
  have hl := numL_len w
  rw [frombW_eq, List.take_of_length_le (by rw [List.length_reverse]; omega), W.num_of]
  have h := numL_num w
  unfold numN at h
  rw [h]
  exact Nat.mod_eq_of_lt (W.num_lt w)
theorem noZ_num (w : W) : noZ (numL w) = false := by
  unfold noZ
  exact beq_eq_false_iff_ne.2 (numL_head w)
theorem valP_num (w : W) : valP false (numL w) 0 = (w, true) := by
  unfold valP
  rw [if_neg (by rw [noZ_num]; have := numL_len w; rintro (h | h | h | h) <;> first | omega | cases h), frombL_num]
theorem valP_list (b : List UInt8) (n : Nat) : valP true b n = (W.zero, false) := by unfold valP; rw [if_pos (.inl rfl)]
theorem IvOk.opn {M : Hp} {y : Iv} (h : IvOk M y) : ∃ l b p n c, y.v = .agg #[.bool l, .string b, .slice p n c] := by
  obtain ⟨p, c, hs, -⟩ := h.li
  exact ⟨y.list, bs y.bytes, p, _, c, by rw [← hs]; rfl⟩
def catI : It := .mk true [] [.mk false [99, 97, 116] [], .mk false [100, 111, 103] []]
theorem catI_enc : encL catI = [200, 131, 99, 97, 116, 131, 100, 111, 103] := by
  have h1 : headL 192 8 = [200] := headL_le (by decide)
  have h2 : headL 128 3 = [131] := headL_le (by decide)
  have t1 : textL [99, 97, 116] = [131, 99, 97, 116] := by rw [textL_as (by decide), show ([99, 97, 116] : List UInt8).length = 3 from rfl, h2]; rfl
  have t2 : textL [100, 111, 103] = [131, 100, 111, 103] := by rw [textL_as (by decide), show ([100, 111, 103] : List UInt8).length = 3 from rfl, h2]; rfl
  have e : encLs [.mk false [99, 97, 116] [], .mk false [100, 111, 103] []] = [131, 99, 97, 116, 131, 100, 111, 103] := by rw [encLs, encLs, encLs, encL, encL, t1, t2]; rfl
  unfold catI
  rw [encL, e, show ([131, 99, 97, 116, 131, 100, 111, 103] : List UInt8).length = 8 from rfl, h1]; rfl
theorem catI_right : rightI catI = true := by
  rw [rightI_eq]; rfl
theorem catI_encD : encD catI = ([200, 131, 99, 97, 116, 131, 100, 111, 103], 0) := by
  unfold encD
  rw [if_pos catI_right, catI_enc, if_pos (by decide)]
theorem catI_dec : decD [200, 131, 99, 97, 116, 131, 100, 111, 103] = (catI, 0, 0) := by
  rw [← catI_enc]
  exact decD_back catI_right (by rw [catI_enc]; decide)
theorem dec_form : decD [129, 5] = (noI, 11, 0) := by rfl
theorem dec_short : decD [193] = (noI, 10, 0) := by rfl
theorem dec_more : decD [5, 6] = (noI, 12, 1) := by rfl
theorem num1024 : numL (W.ofInt 1024) = [4, 0] := by
  refine numN_inj (numL_head _) (by decide) ?_
  rw [numL_num, show (1024 : Int) = ((1024 : Nat) : Int) from rfl, W.ofInt_num 1024 (by decide)]
  rfl
theorem oddI_right : rightI (.mk true [97] []) = false := by rw [rightI_eq]; rfl
end Go.Ev
namespace Go.Proofs.YtolmipnaheifcaaDoor
open Go Go.Ev Go.Proofs
set_option maxRecDepth 100000
set_option maxHeartbeats 4000000
theorem refOfNG (args : List Value) (v : Value) (h : ofNG args = some v) : CallsV Tryd.prog 21 args [] (Ret0 v) := by
  unfold ofNG at h
  split at h
  · split at h
    · rename_i n hn; cases h; exact refOf n hn
    · cases h
  · cases h
noncomputable def gO4 : Gam := (addG 21 ofNG (addG 16 rvalG gO3))
attribute [push_cast] gO4
theorem gO4_ok : GamOk Tryd.prog gO4 := (addG_ok refOfNG (addG_ok rvalG_ok gO3_ok))
attribute [push_cast] gO4
def plAW : Plans := fun i => if i = 9 then [] else Tryd.pl8 i
attribute [push_cast] plAW
theorem awk06_ok {M : Hp} (hk : ErrR M) (hm : marksOf M = []) : CallsV Tryd.prog 8 [] M (Ret0 (.bool true)) := by
  refine callsO gO4_ok Tryd.mix plAW Tryd.func8 rfl Tryd.ntmps8 Tryd.results8 rfl (by first | rfl | assumption) (Nat.le_of_ble_eq_true rfl) (by kernel_rfl) ?_
  simp only [push_cast, seval, reduceCtorEq]
  intro b hb b1 hb1
  obtain ⟨M1, hM1⟩ : ∃ M1 : Hp, M1 = ⟨b, 0, .vec 29 3 2, [.bool false, .string { data := #[99, 97, 116] }, .slice none 0 0, .bool false, .string { data := #[100, 111, 103] }, .slice none 0 0]⟩ :: M := ⟨_, rfl⟩
  obtain ⟨X, hX⟩ : ∃ X, X = Iv.mk true [] (.slice (some ⟨b, 0, none⟩) 2 2) [.mk false [99, 97, 116] (.slice none 0 0) [], .mk false [100, 111, 103] (.slice none 0 0) []] := ⟨_, rfl⟩
  have hXi : X.it = catI := by rw [hX]; simp only [Iv.it, Iv.its]; rfl
  have hXv : Value.agg #[.bool true, .string (bs []), .slice (some ⟨b, 0, none⟩) 2 2] = X.v := by rw [hX]; rfl
  have hm1 : marksOf M1 = [] := by rw [hM1]; simp [marksOf, hm]
  have hX1 : IvOk M1 X := by
    rw [hX, hM1]
    refine .mk _ ⟨_, 2, rfl, .inr ⟨b, 0, rfl, ?_⟩⟩ (show 2 ≤ 1099511627776 by decide) fun k hk => ?_
    · unfold cellsAt
      simp only [findE, if_true]
      rfl
    · replace hk : k ∈ [Iv.mk false [99, 97, 116] (.slice none 0 0) [], .mk false [100, 111, 103] (.slice none 0 0) []] := hk
      rcases List.mem_cons.1 hk with rfl | hk
      · exact IvOk.text _ _ _ _
      · rw [List.mem_singleton.1 hk]; exact IvOk.text _ _ _ _
  have hk1 : ErrR M1 := hk.ext (by rw [hM1]; exact Ext.cons hm rfl hb)
  have f1 : fresh b1 M1 := by rw [hM1]; exact hb1
  rw [← hM1, hXv]
  have enc := catI_encD
  refine useP [_] (M := M1) (renc_R hX1 (by rw [hXi, catI_enc]; decide)) ⟨f1, trivial⟩ ?_
  rw [hXi, enc]
  simp only [push_cast, seval, reduceCtorEq]
  refine useL [_] (decode_ok hk1 [200, 131, 99, 97, 116, 131, 100, 111, 103] (by decide)) (DecQ.rd _) hm1 ⟨f1, trivial⟩ fun v M2 hg2 hL2 hq2 => ?_
  obtain ⟨y, e, p, rfl, hd, hy⟩ := hq2
  rw [catI_dec] at hd
  injection hd with hy1 hd
  injection hd with he hp
  subst he hp
  obtain ⟨yl, yb, yp, yn, yc, hyv⟩ := hy.opn
  have hk2 := hk1.ext hg2.ext
  have hX2 := hX1.ext hg2.ext
  have hm2 := hg2.marks
  have f2 := hL2.1
  clear hL2 f1
  simp only [push_cast, seval, reduceCtorEq, hyv]
  intro b4 hb4
  have f4 : fresh b4 M2 := hb4.2.2
  have g4 : ¬ b4 = b1 ∧ ¬ b1 = b4 := ⟨hb4.1, hb4.2.1⟩
  refine useL [_, _] (decode_ok hk2 [129, 5] (by decide)) (DecQ.rd _) hm2 ⟨f4, f2, trivial⟩ fun v M3 hg3 hL3 hq3 => ?_
  obtain ⟨y3, e, p, rfl, hd, hy3⟩ := hq3
  rw [dec_form] at hd
  injection hd with hy31 hd
  injection hd with he hp
  subst he hp
  obtain ⟨yl3, yb3, yp3, yn3, yc3, hyv3⟩ := hy3.opn
  obtain ⟨f4, f1, -⟩ := hL3
  have hk3 := hk2.ext hg3.ext
  have hX3 := hX2.ext hg3.ext
  have hY3 := hy.ext hg3.ext
  have hm3 := hg3.marks
  simp only [push_cast, seval, reduceCtorEq, hyv3, g4]
  intro b7 hb7
  have f7 : fresh b7 M3 := hb7.2.2.2.2
  have g7 : ¬ b7 = b4 ∧ ¬ b4 = b7 ∧ ¬ b7 = b1 ∧ ¬ b1 = b7 := ⟨hb7.1, hb7.2.1, hb7.2.2.1, hb7.2.2.2.1⟩
  refine useL [_, _, _] (decode_ok hk3 [193] (by decide)) (DecQ.rd _) hm3 ⟨f7, f4, f1, trivial⟩ fun v M4 hg4 hL4 hq4 => ?_
  obtain ⟨y4, e, p, rfl, hd, hy4⟩ := hq4
  rw [dec_short] at hd
  injection hd with hy41 hd
  injection hd with he hp
  subst he hp
  obtain ⟨yl4, yb4, yp4, yn4, yc4, hyv4⟩ := hy4.opn
  obtain ⟨f7, f4, f1, -⟩ := hL4
  have hk4 := hk3.ext hg4.ext
  have hX4 := hX3.ext hg4.ext
  have hY4 := hY3.ext hg4.ext
  have hm4 := hg4.marks
  simp only [push_cast, seval, reduceCtorEq, hyv4, g4, g7]
  intro b10 hb10
  have f10 : fresh b10 M4 := hb10.2.2.2.2.2.2
  have g10 : ¬ b10 = b7 ∧ ¬ b7 = b10 ∧ ¬ b10 = b4 ∧ ¬ b4 = b10 ∧ ¬ b10 = b1 ∧ ¬ b1 = b10 := ⟨hb10.1, hb10.2.1, hb10.2.2.1, hb10.2.2.2.1, hb10.2.2.2.2.1, hb10.2.2.2.2.2.1⟩
  refine useL [_, _, _, _] (decode_ok hk4 [5, 6] (by decide)) (DecQ.rd _) hm4 ⟨f10, f7, f4, f1, trivial⟩ fun v M5 hg5 hL5 hq5 => ?_
  obtain ⟨y5, e, p, rfl, hd, hy5⟩ := hq5
  rw [dec_more] at hd
  injection hd with hy51 hd
  injection hd with he hp
  subst he hp
  obtain ⟨yl5, yb5, yp5, yn5, yc5, hyv5⟩ := hy5.opn
  obtain ⟨f10, f7, f4, f1, -⟩ := hL5
  have hX5 := hX4.ext hg5.ext
  have hY5 := hY4.ext hg5.ext
  have hm5 := hg5.marks
  have w0 : (W.zero.v) = .agg W.zero.cells.toArray := rfl
  have bnum : (bs (numL (W.ofInt 1024))).data.toList = numL (W.ofInt 1024) := bs_data _
  have lnum : (numL (W.ofInt 1024)).length ≤ 1099511627776 := by have := numL_len (W.ofInt 1024); omega
  have vnum := valP_num (W.ofInt 1024)
  have vlst := valP_list [] 2
  simp only [push_cast, seval, reduceCtorEq, hyv5, g4, g7, g10, bnum, lnum, vnum]
  intro b13 hb13 b16 hb16
  have f13 : fresh b13 M5 := hb13.2.2.2.2.2.2.2.2
  have g13 : ¬ b13 = b10 ∧ ¬ b10 = b13 ∧ ¬ b13 = b7 ∧ ¬ b7 = b13 ∧ ¬ b13 = b4 ∧ ¬ b4 = b13 ∧ ¬ b13 = b1 ∧ ¬ b1 = b13 := ⟨hb13.1, hb13.2.1, hb13.2.2.1, hb13.2.2.2.1, hb13.2.2.2.2.1, hb13.2.2.2.2.2.1, hb13.2.2.2.2.2.2.1, hb13.2.2.2.2.2.2.2.1⟩
  have f16 : fresh b16 M5 := hb16.2.2.2.2.2.2.2.2.2.2
  have g16 : ¬ b16 = b13 ∧ ¬ b13 = b16 ∧ ¬ b16 = b10 ∧ ¬ b10 = b16 ∧ ¬ b16 = b7 ∧ ¬ b7 = b16 ∧ ¬ b16 = b4 ∧ ¬ b4 = b16 ∧ ¬ b16 = b1 ∧ ¬ b1 = b16 := ⟨hb16.1, hb16.2.1, hb16.2.2.1, hb16.2.2.2.1, hb16.2.2.2.2.1, hb16.2.2.2.2.2.1, hb16.2.2.2.2.2.2.1, hb16.2.2.2.2.2.2.2.1, hb16.2.2.2.2.2.2.2.2.1, hb16.2.2.2.2.2.2.2.2.2.1⟩
  have bnil : (bs ([] : List UInt8)).data.toList = [] := bs_data _
  have l0 : ([] : List UInt8).length ≤ 1099511627776 := by decide
  simp only [push_cast, seval, reduceCtorEq, g4, g7, g10, g13, g16, bnil, l0, vlst]
  intro b18 hb18
  have f18 : fresh b18 M5 := hb18.2.2.2.2.2.2.2.2.2.2.2.2
  have g18 : ¬ b18 = b16 ∧ ¬ b16 = b18 ∧ ¬ b18 = b13 ∧ ¬ b13 = b18 ∧ ¬ b18 = b10 ∧ ¬ b10 = b18 ∧ ¬ b18 = b7 ∧ ¬ b7 = b18 ∧ ¬ b18 = b4 ∧ ¬ b4 = b18 ∧ ¬ b18 = b1 ∧ ¬ b1 = b18 := ⟨hb18.1, hb18.2.1, hb18.2.2.1, hb18.2.2.2.1, hb18.2.2.2.2.1, hb18.2.2.2.2.2.1, hb18.2.2.2.2.2.2.1, hb18.2.2.2.2.2.2.2.1, hb18.2.2.2.2.2.2.2.2.1, hb18.2.2.2.2.2.2.2.2.2.1, hb18.2.2.2.2.2.2.2.2.2.2.1, hb18.2.2.2.2.2.2.2.2.2.2.2.1⟩
  have fL : freshN [⟨b18, 0, .cel 39, W.zero.cells⟩, ⟨b16, 0, .cel 39, (W.ofInt 1024).cells⟩, ⟨b13, 0, .cel 29, [.bool yl5, .string yb5, .slice yp5 yn5 yc5]⟩, ⟨b10, 0, .cel 29, [.bool yl4, .string yb4, .slice yp4 yn4 yc4]⟩, ⟨b7, 0, .cel 29, [.bool yl3, .string yb3, .slice yp3 yn3 yc3]⟩, ⟨b4, 0, .cel 29, [.bool yl, .string yb, .slice yp yn yc]⟩, ⟨b1, 0, .cel 29, [.bool true, .string (bs []), .slice (some ⟨b, 0, none⟩) 2 2]⟩] M5 := ⟨f18, f16, f13, f10, f7, f4, f1, trivial⟩
  refine drawO gO4_ok Tryd.mix (Tryd.pl8 9) (by kernel_rfl) ?_
  have s1 : (bs [200, 131, 99, 97, 116, 131, 100, 111, 103]).toList = [200, 131, 99, 97, 116, 131, 100, 111, 103] := bs_toList _
  have s2 : ByteArray.toList { data := #[200, 131, 99, 97, 116, 131, 100, 111, 103] } = [200, 131, 99, 97, 116, 131, 100, 111, 103] := bs_toList [200, 131, 99, 97, 116, 131, 100, 111, 103]
  simp only [List.append_eq, List.cons_append, List.nil_append]
  simp only [push_cast, seval, reduceCtorEq, g4, g7, g10, g13, g16, g18, s1, s2]
  have hsame : sameI X.it y.it = true := sameI_t (by rw [hXi, hy1])
  refine takeP6 [_, _, _, _, _, _, _] (v := .bool true) (fun MB hr he => by have := rsame_R hX5 hY5 MB hr he; rw [hsame, ← hXv, hyv] at this; exact this) fL ?_
  have weq : binQ Tryd.prog .eql 39 (W.ofInt 1024).v (W.ofInt 1024).v = some (.bool true) := by rw [W.eql _ _ (by kernel_rfl) (by kernel_rfl) (by kernel_rfl), decide_eq_true rfl]
  have wag : Value.agg (W.ofInt 1024).cells.toArray = (W.ofInt 1024).v := rfl
  simp only [push_cast, seval, reduceCtorEq, g4, g7, g10, g13, g16, g18, s1, s2, weq, wag]
  refine takeP6 [_, _, _, _, _, _, _] (v := .bool true) (fun MB hr he => by have := rright_R hX5 MB hr he; rw [hXi, catI_right, ← hXv] at this; exact this) fL ?_
  simp only [push_cast, seval, reduceCtorEq, g4, g7, g10, g13, g16, g18, s1, s2, weq, wag]
  refine takeP6 [_, _, _, _, _, _, _] (v := .bool false) (fun MB hr he => by have := rright_R (IvOk.text MB [97] true 0) MB hr rfl; rw [show (Iv.mk true [97] (.slice none 0 0) []).it = .mk true [97] [] by simp only [Iv.it, Iv.its], oddI_right] at this; exact this) fL ?_
  have n4 : (bs (numL (W.ofInt 1024))).toList = [4, 0] := by rw [bs_toList, num1024]
  have n5 : ByteArray.toList { data := #[4, 0] } = [4, 0] := bs_toList [4, 0]
  simp only [push_cast, seval, reduceCtorEq, g4, g7, g10, g13, g16, g18, s1, s2, weq, wag, n4, n5]
theorem awk06_P {A : Hp} (hk : ErrR A) : ∀ M0, roM M0 → cellsAt M0 = cellsAt A → CallsV Tryd.prog 8 [] M0 (Ret0 (.bool true)) := fun M0 hr he => awk06_ok (hk.congr he.symm) hr.marks
end Go.Proofs.YtolmipnaheifcaaDoor
set_option linter.unusedSimpArgs false
set_option linter.unusedVariables false
namespace Go.Ev
theorem numL_step {y : UInt8} {r : List UInt8} : List.dropWhile (fun b : UInt8 => b == 0) (y :: r) = if y = 0 then List.dropWhile (fun b : UInt8 => b == 0) r else y :: r := by
  rw [List.dropWhile_cons]
  by_cases h : y = 0
  · rw [if_pos (by simp [h]), if_pos h]
  · rw [if_neg (by simp [h]), if_neg h]
end Go.Ev
namespace Go.Proofs.YtolmipnaheifcaaDoor
open Go Go.Ev Go.Proofs
set_option maxRecDepth 100000
set_option maxHeartbeats 4000000
noncomputable def gO6 : Gam := (addG 37 wbytesG gO4)
attribute [push_cast] gO6
theorem gO6_ok : GamOk Tryd.prog gO6 := (addG_ok refBytesG gO4_ok)
attribute [push_cast] gO6
theorem refNum6_ok (w : W) : CallsV Tryd.prog 24 [w.v] [] (Ret0 (.agg #[.bool false, .string (bs (numL w)), .slice none 0 0])) := by
  obtain ⟨R, hR⟩ : ∃ R, R = numL w := ⟨_, rfl⟩
  rw [← hR]
  unfold numL at hR
  have wl := wbytes_len w
  obtain ⟨l, hl⟩ : ∃ l, l = wbytes w := ⟨_, rfl⟩
  rw [← hl] at hR wl
  refine callsO gO6_ok Tryd.mix Tryd.pl24 Tryd.func24 rfl Tryd.ntmps24 Tryd.results24 rfl (by first | rfl | assumption) (Nat.le_of_ble_eq_true rfl) (by kernel_rfl) ?_
  simp only [push_cast, seval, reduceCtorEq]
  intro b1 b2 hb2
  simp only [push_cast, seval, reduceCtorEq, hb2, ← hl, bs_mk]
  refine loopO gO6_ok (pl := Tryd.pl24) Tryd.mix (X := List UInt8)
    (fun x => ([(1, .pointer (some ⟨b1, 0, none⟩)), (2, .pointer (some ⟨b2, 0, none⟩)), (3, .string (bs x))], [⟨b2, 0, .cel 29, [.bool false, .string ByteArray.empty, .slice none 0 0]⟩]))
    (fun x => x.dropWhile (fun b : UInt8 => b == 0) = R ∧ x.length ≤ 32) (fun x => x.length) l ?_ ?_ (by kernel_rfl) ?_
  · exact ⟨hR.symm, by omega⟩
  · simp only [push_cast, seval, reduceCtorEq, hb2, bs_mk]
  · rintro x ⟨hx, hlen⟩
    dsimp only at hx hlen ⊢
    have e1 : ByteArray.toList { data := #[] } = [] := bs_toList []
    cases x with
    | nil =>
      have e : R = [] := by rw [← hx]; rfl
      simp only [push_cast, seval, reduceCtorEq, e1, e]
    | cons y r =>
      obtain ⟨z, hz⟩ : ∃ z, z = y :: r := ⟨_, rfl⟩
      have zl : z.length = r.length + 1 := by rw [hz]; rfl
      have c2 : 0 < z.length := by omega
      have c1 : (0 : Int) < (z.length : Int) := by omega
      have c3 : 1 ≤ z.length := by omega
      have c4 : (1 : Int) ≤ (z.length : Int) := by omega
      have b0 : (bs z).data[0]? = some y := by rw [nbs_idx c2]; subst hz; rfl
      have dr : List.take (z.length - 1) (List.drop 1 z) = r := by rw [hz]; show List.take (r.length + 1 - 1) r = r; exact List.take_of_length_le (by omega)
      have ne : (z == []) = false := by rw [hz]; rfl
      rw [numL_step] at hx
      rw [← hz] at hx ⊢
      by_cases hy : y = 0
      · have e : ((y.toNat : Int) == 0) = true := by rw [hy]; rfl
        rw [if_pos hy] at hx
        simp only [push_cast, seval, reduceCtorEq, e1, ne, c1, c2, c3, c4, b0, e, dr]
        exact ⟨r, ⟨hx, by rw [List.length_cons] at hlen; omega⟩, by omega, rfl⟩
      · have e : ((y.toNat : Int) == 0) = false := beq_eq_false_iff_ne.2 fun h => hy (UInt8.toNat_inj.1 (show y.toNat = 0 by omega))
        rw [if_neg hy] at hx
        simp only [push_cast, seval, reduceCtorEq, e1, ne, c1, c2, c3, c4, b0, e]
        rw [hx]
theorem refNum6G_ok (args : List Value) (v : Value) (h : rnumG args = some v) : CallsV Tryd.prog 24 args [] (Ret0 v) := by
  unfold rnumG at h
  split at h
  · rename_i x
    cases hx : wOf x with
    | none => simp [hx] at h
    | some a => simp only [hx, Option.bind_some, Option.some.injEq] at h; rw [wOf_some hx, ← h]; exact refNum6_ok a
  · cases h
noncomputable def gO7 : Gam := (addG 11 pickG (addG 24 rnumG gO6))
attribute [push_cast] gO7
theorem gO7_ok : GamOk Tryd.prog gO7 := (addG_ok pickG_ok (addG_ok refNum6G_ok gO6_ok))
attribute [push_cast] gO7
end Go.Proofs.YtolmipnaheifcaaDoor
set_option linter.unusedSimpArgs false
set_option linter.unusedVariables false
namespace Go.Ev
end Go.Ev
namespace Go.Proofs.YtolmipnaheifcaaDoor
open Go Go.Ev Go.Proofs
set_option maxRecDepth 100000
set_option maxHeartbeats 20000000
attribute [-push_cast] evAppend_nil evAppend_some slAddr
end Go.Proofs.YtolmipnaheifcaaDoor
set_option linter.unusedSimpArgs false
set_option linter.unusedVariables false
namespace Go.Proofs.YtolmipnaheifcaaDoor
open Go Go.Ev Go.Proofs Go.ChangeShapes Go.WideShapes Go.ChangeAt Go.RowKit
set_option maxRecDepth 100000
set_option maxHeartbeats 4000000
end Go.Proofs.YtolmipnaheifcaaDoor
set_option linter.unusedSimpArgs false
set_option linter.unusedVariables false
namespace Go.Ev
mutual
theorem okD_mono : ∀ (x : It) (d e : Nat), d ≤ e → okD x d = true → okD x e = true
  | .mk l b ks, d, e, h, ho => by
    cases d with
    | zero => rw [okD] at ho; cases ho
    | succ d =>
      obtain ⟨e', rfl⟩ : ∃ e', e = e' + 1 := ⟨e - 1, by omega⟩
      rw [okD, Bool.and_eq_true] at ho ⊢
      exact ⟨ho.1, okDs_mono ks d e' (by omega) ho.2⟩
theorem okDs_mono : ∀ (ks : List It) (d e : Nat), d ≤ e → okDs ks d = true → okDs ks e = true
  | [], d, e, h, _ => by rw [okDs]
  | k :: r, d, e, h, ho => by
    rw [okDs, Bool.and_eq_true] at ho ⊢
    exact ⟨okD_mono k d e h ho.1, okDs_mono r d e h ho.2⟩
end
theorem rightI_of {x : It} {d : Nat} (hd : d ≤ 16) (h1 : okD x d = true) (h2 : cntI x ≤ 5000) : rightI x = true := by
  rw [rightI_eq, okD_mono x d 16 hd h1, decide_eq_true h2]; rfl
theorem encD_ok {x : It} (hr : rightI x = true) (hl : (encL x).length ≤ 1048576) : encD x = (encL x, 0) := by
  unfold encD
  rw [if_pos hr, if_pos hl]
end Go.Ev
set_option linter.unusedSimpArgs false
set_option linter.unusedVariables false
namespace Go.Ev
def deepI : Nat → It
  | 0 => .mk true [] []
  | k + 1 => .mk true [] [deepI k]
def deepS : Nat → List UInt8
  | 0 => [192]
  | k + 1 => UInt8.ofNat (192 + (deepS k).length) :: deepS k
theorem deepS_len : ∀ k, (deepS k).length = k + 1
  | 0 => rfl
  | k + 1 => by rw [deepS, List.length_cons, deepS_len k]
theorem deep_enc : ∀ k, k ≤ 30 → encL (deepI k) = deepS k
  | 0, _ => by
    rw [deepI, encL, encLs]
    rw [List.length_nil, headL_le (by decide)]; rfl
  | k + 1, h => by
    rw [deepI, encL, encLs, encLs, List.append_nil, deep_enc k (by omega), deepS_len, headL_le (by omega), deepS, deepS_len]; rfl
theorem deep_ok : ∀ k, okD (deepI k) (k + 1) = true
  | 0 => by rw [deepI, okD, okDs]; rfl
  | k + 1 => by rw [deepI, okD, okDs, okDs, deep_ok k]; rfl
theorem deep_not : ∀ k, okD (deepI k) k = false
  | 0 => by rw [deepI, okD]
  | k + 1 => by rw [deepI, okD, okDs, deep_not k, Bool.false_and, Bool.and_false]
theorem deep_cnt : ∀ k, cntI (deepI k) = k + 1
  | 0 => by rw [deepI, cntI, cntIs]
  | k + 1 => by rw [deepI, cntI, cntIs, cntIs, deep_cnt k]; omega
theorem deep_right {k : Nat} (h : k < 16) : rightI (deepI k) = true := rightI_of (d := k + 1) (by omega) (deep_ok k) (by rw [deep_cnt]; omega)
theorem deep_wrong {k : Nat} (h : 16 ≤ k) : rightI (deepI k) = false := by
  rw [rightI_eq]
  cases h1 : okD (deepI k) 16 with
  | false => rfl
  | true =>
    have := okD_mono _ 16 k h h1
    rw [deep_not] at this; cases this
theorem deep_encD {k : Nat} (h : k < 16) : encD (deepI k) = (deepS k, 0) := by
  rw [encD_ok (deep_right h) (by rw [deep_enc k (by omega), deepS_len]; omega), deep_enc k (by omega)]
theorem deep_encD2 {k : Nat} (h : 16 ≤ k) : encD (deepI k) = ([], 1) := by
  unfold encD
  rw [if_neg (by rw [deep_wrong h]; decide)]
theorem deep_dec {k : Nat} (h : k < 16) : decD (deepS k) = (deepI k, 0, 0) := by
  rw [← deep_enc k (by omega)]
  exact decD_back (deep_right h) (by rw [deep_enc k (by omega), deepS_len]; omega)
theorem deep_dec2 {k : Nat} (h : 16 ≤ k) (h2 : k < 24) : decD (deepS k) = (noI, 13, 16) := by
  obtain rfl | rfl | rfl | rfl | rfl | rfl | rfl | rfl : k = 16 ∨ k = 17 ∨ k = 18 ∨ k = 19 ∨ k = 20 ∨ k = 21 ∨ k = 22 ∨ k = 23 := by omega
  all_goals rfl
end Go.Ev
namespace Go.Proofs.YtolmipnaheifcaaDoor
open Go Go.Ev Go.Proofs
set_option maxRecDepth 100000
set_option maxHeartbeats 4000000
def plDP : Plans := fun i => if i = 13 then [] else if i = 14 then [] else Tryd.pl6 i
attribute [push_cast] plDP
theorem rlpDeep_ok {M : Hp} {n : Int} (hk : ErrR M) (hm : marksOf M = []) (hn : i64In n) : CallsV Tryd.prog 6 [.int .i64 n] M (Ret0 (.bool true)) := by
  have b24 : i64B 24 = true := i64B_in (by decide)
  have p24 : posB 24 = true := posB_in (by decide)
  have hn' := i64B_in hn
  have hkl := pickN_lt n (show (0 : Int) < 24 by decide)
  obtain ⟨k, hk'⟩ : ∃ k, k = pickN n 24 := ⟨_, rfl⟩
  rw [← hk'] at hkl
  have k24 : k < 24 := by omega
  refine callsO gO7_ok Tryd.mix plDP Tryd.func6 rfl Tryd.ntmps6 Tryd.results6 rfl (by first | rfl | assumption) (Nat.le_of_ble_eq_true rfl) (by kernel_rfl) ?_
  simp only [push_cast, seval, reduceCtorEq]
  refine useP [] (M := M) (awk06_P hk) trivial ?_
  simp only [push_cast, seval, reduceCtorEq, b24, p24, hn', ← hk']
  intro b5 hb5
  refine loopO gO7_ok (pl := plDP) Tryd.mix (X := {x : (Nat × Iv) × Hp // ErrR x.2 ∧ marksOf x.2 = [] ∧ fresh b5 x.2})
    (fun x => ([(3, .bool true), (4, .int .i64 (k : Int)), (5, .pointer (some ⟨b5, 0, none⟩)), (6, .string (bs (deepS x.1.1.1))), (7, .int .i64 (x.1.1.1 : Int))], ⟨b5, 0, .cel 29, [.bool true, .string (bs []), x.1.1.2.sv]⟩ :: x.1.2))
    (fun x => x.1.1.1 ≤ k ∧ x.1.1.2.list = true ∧ x.1.1.2.bytes = [] ∧ x.1.1.2.it = deepI x.1.1.1 ∧ IvOk x.1.2 x.1.1.2) (fun x => k - x.1.1.1)
    ⟨((0, .mk true [] (.slice none 0 0) []), M), hk, hm, hb5⟩ ?_ ?_ (by kernel_rfl) ?_
  · exact ⟨Nat.zero_le _, rfl, rfl, by simp only [Iv.it, Iv.its]; rfl, IvOk.text _ _ _ _⟩
  · simp only [push_cast, seval, reduceCtorEq]
    exact ⟨rfl, rfl⟩
  · rintro ⟨⟨⟨i, x⟩, M1⟩, hk1, hm1, f5⟩ ⟨hi, xl, xb, xi, xo⟩
    dsimp only at hk1 hm1 f5 hi xl xb xi xo ⊢
    obtain ⟨xl', xb', xs, xk⟩ := x
    replace xl : xl' = true := xl
    replace xb : xb' = [] := xb
    subst xl xb
    obtain ⟨p, c, hs, -⟩ := id xo.li
    replace hs : xs = .slice p xk.length c := hs
    subst hs
    show oC _ _ _ _ _ _ _ _ (⟨b5, 0, .cel 29, [.bool true, .string (bs []), .slice p xk.length c]⟩ :: M1)
    rcases Nat.lt_or_ge i k with hlt | hge
    · have i1 : (i : Int) < (k : Int) := by omega
      have dl := deepS_len i
      obtain ⟨D, hD⟩ : ∃ D, D = deepS i := ⟨_, rfl⟩
      rw [← hD] at dl ⊢
      have wz : IntKind.u8.wrap (192 + (D.length : Int)) = ((UInt8.ofNat (192 + D.length)).toNat : Int) := by rw [show (192 : Int) + (D.length : Int) = ((192 + D.length : Nat) : Int) by omega]; exact u8_wrapN _
      obtain ⟨ch, hc⟩ : ∃ c, c = UInt8.ofNat (192 + D.length) := ⟨_, rfl⟩
      rw [← hc] at wz
      have hbc : bytesOf [.int .u8 (ch.toNat : Int)] = some [ch] := bytesOf_byteV [ch]
      have hds : deepS (i + 1) = ch :: D := by rw [deepS, hc, hD]
      have cat : catB (bs [ch]) (bs D) = some (.string (bs (ch :: D))) := ncatB [ch] D (by show 1 + _ ≤ _; omega)
      simp only [push_cast, seval, reduceCtorEq, i1]
      intro b hb
      simp only [push_cast, seval, reduceCtorEq, hb, wrap_i64' (show -9223372036854775808 ≤ 192 + (D.length : Int) ∧ 192 + (D.length : Int) ≤ 9223372036854775807 by omega), wz]
      intro b2 hb2
      simp only [push_cast, seval, reduceCtorEq, hb, hb2, hbc, bs_mk, cat, wrap_i64' (show -9223372036854775808 ≤ (i : Int) + 1 ∧ (i : Int) + 1 ≤ 9223372036854775807 by omega)]
      obtain ⟨X, hX⟩ : ∃ X, X = Iv.mk true [] (.slice p xk.length c) xk := ⟨_, rfl⟩
      obtain ⟨M2, hM2⟩ : ∃ M2 : Hp, M2 = ⟨b, 0, .vec 29 3 1, [.bool true, .string (bs []), .slice p xk.length c]⟩ :: M1 := ⟨_, rfl⟩
      have hx2 : Ext M1 M2 := by rw [hM2]; exact Ext.cons hm1 rfl hb.2.2
      have f2M : fresh b2 M2 := by rw [hM2]; exact ⟨hb2.1, hb2.2.1, hb2.2.2.2.2⟩
      have hs2 : subH (⟨b, 0, .vec 29 3 1, [.bool true, .string (bs []), .slice p xk.length c]⟩ :: M1) M2 := by rw [hM2]; exact subH_self _
      have hmk2 : marksOf M2 = marksOf M1 := by rw [hM2]; simp [marksOf]
      refine ⟨⟨((i + 1, .mk true [] (.slice (some ⟨b, 0, none⟩) 1 1) [X]), M2), hk1.ext hx2, hx2.marks, by rw [hM2]; exact ⟨hb.2.1, hb.1, f5⟩⟩, ⟨hlt, rfl, rfl, ?_, ?_⟩, by dsimp only; omega, ⟨?_, rfl⟩, ⟨rfl, ?_⟩, ?_⟩
      · simp only [Iv.it, Iv.its]
        rw [hX, xi]; rfl
      · refine .mk _ ⟨_, 1, rfl, .inr ⟨b, 0, rfl, ?_⟩⟩ (show 1 ≤ 1099511627776 by decide) fun k hk => ?_
        · show cellsAt M2 b 0 3 = some ([X].flatMap Iv.cells)
          rw [hM2, hX]
          unfold cellsAt
          simp only [findE, if_true]
          rfl
        · rw [List.mem_singleton.1 (show k ∈ [X] from hk), hX]; exact xo.ext hx2
      · dsimp only; rw [hds]
      · exact subH_skip6 f2M hs2
      · exact hmk2
    · obtain rfl : i = k := by omega
      have i1 : ¬ (i : Int) < (i : Int) := by omega
      have hXv : Value.agg #[.bool true, .string (bs []), .slice p xk.length c] = (Iv.mk true [] (.slice p xk.length c) xk).v := rfl
      obtain ⟨X, hX⟩ : ∃ X, X = Iv.mk true [] (.slice p xk.length c) xk := ⟨_, rfl⟩
      rw [← hX] at xi xo hXv
      rcases Nat.lt_or_ge i 16 with h16 | h16
      · have c16 : ¬ (16 : Int) ≤ (i : Int) := by omega
        have dl := deepS_len i
        simp only [push_cast, seval, reduceCtorEq, i1]
        refine useP [_] (M := M1) (v := .tuple #[.string (bs (deepS i)), .int .i64 0]) (fun M0 hr he => by have := renc_R xo (by rw [xi, deep_enc i (by omega), dl]; omega) M0 hr he; rw [xi, deep_encD h16, ← hXv] at this; exact this) ⟨f5, trivial⟩ ?_
        simp only [push_cast, seval, reduceCtorEq]
        refine useL [_] (decode_ok hk1 (deepS i) (by omega)) (DecQ.rd _) hm1 ⟨f5, trivial⟩ fun v M2 hg2 hL2 hq2 => ?_
        obtain ⟨y, e, q, rfl, hd, hy⟩ := hq2
        rw [deep_dec h16] at hd
        injection hd with hyi hd
        injection hd with he hp
        subst he hp
        obtain ⟨yl, yb, yp, yn, yc, hyv⟩ := hy.opn
        have xo2 := xo.ext hg2.ext
        have f52 : fresh b5 M2 := hL2.1
        simp only [push_cast, seval, reduceCtorEq, hyv]
        intro b10 hb10
        have f10 : fresh b10 M2 := hb10.2.2
        simp only [push_cast, seval, reduceCtorEq, hb10, c16]
        refine useP [_, _] (M := M2) (v := .bool true) (fun M0 hr he => by have := rright_R xo2 M0 hr he; rw [xi, deep_right h16, ← hXv] at this; exact this) ⟨f10, f52, trivial⟩ ?_
        simp only [push_cast, seval, reduceCtorEq, hb10]
        refine useP [_, _] (M := M2) (v := .bool true) (fun M0 hr he => by have := rsame_R xo2 hy M0 hr he; rw [sameI_t (by rw [xi, hyi]), ← hXv, hyv] at this; exact this) ⟨f10, f52, trivial⟩ ?_
        simp only [push_cast, seval, reduceCtorEq]
      · have c16 : (16 : Int) ≤ (i : Int) := by omega
        have dl := deepS_len i
        simp only [push_cast, seval, reduceCtorEq, i1]
        refine useP [_] (M := M1) (v := .tuple #[.string (bs []), .int .i64 1]) (fun M0 hr he => by have := renc_R xo (by rw [xi, deep_enc i (by omega), dl]; omega) M0 hr he; rw [xi, deep_encD2 h16, ← hXv] at this; exact this) ⟨f5, trivial⟩ ?_
        simp only [push_cast, seval, reduceCtorEq]
        refine useL [_] (decode_ok hk1 (deepS i) (by omega)) (DecQ.rd _) hm1 ⟨f5, trivial⟩ fun v M2 hg2 hL2 hq2 => ?_
        obtain ⟨y, e, q, rfl, hd, hy⟩ := hq2
        rw [deep_dec2 h16 k24] at hd
        injection hd with hyi hd
        injection hd with he hp
        subst he hp
        obtain ⟨yl, yb, yp, yn, yc, hyv⟩ := hy.opn
        have xo2 := xo.ext hg2.ext
        have f52 : fresh b5 M2 := hL2.1
        simp only [push_cast, seval, reduceCtorEq, hyv]
        intro b10 hb10
        have f10 : fresh b10 M2 := hb10.2.2
        simp only [push_cast, seval, reduceCtorEq, hb10, c16]
        refine useP [_, _] (M := M2) (v := .bool false) (fun M0 hr he => by have := rright_R xo2 M0 hr he; rw [xi, deep_wrong h16, ← hXv] at this; exact this) ⟨f10, f52, trivial⟩ ?_
        simp only [push_cast, seval, reduceCtorEq]
end Go.Proofs.YtolmipnaheifcaaDoor
