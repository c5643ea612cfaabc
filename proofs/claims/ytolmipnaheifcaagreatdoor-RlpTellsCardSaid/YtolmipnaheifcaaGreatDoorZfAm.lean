/- Texts of this claim, merged by program: Os EvAC Ou. -/
import Derived.Test.YtolmipnaheifcaaGreatDoorZfAl
import Derived.Test.YtolmipnaheifcaaGreatDoorZfAj
set_option linter.unusedSimpArgs false
set_option linter.unusedVariables false
namespace Go.Proofs.YtolmipnaheifcaaGreatDoor
open Go Go.Ev Go.Proofs
set_option maxRecDepth 100000
set_option maxHeartbeats 4000000
theorem refright_ok (x : Iv) : ∀ (d : Nat) (M0 : Hp), d ≤ 1024 → roM M0 → IvOk M0 x → CallsV Tryz.prog 33 [x.v, .int .i64 (d : Int)] M0 (Ret0 (.bool (okD x.it d))) := by
  induction x using Iv.ind with
  | h x ih =>
    intro d M0 hd hr hx
    have hm := hr.marks
    have e : ∀ D, okD x.it (D + 1) = ((if x.list then x.bytes.isEmpty else (x.kids.map Iv.it).isEmpty) && okDs (x.kids.map Iv.it) D) := fun D => by rw [okD_eq x.it D, Iv.it_list, Iv.it_bytes, Iv.it_kids]
    have e0 : okD x.it 0 = false := by cases x.it; rw [okD]
    have hli := hx.li
    have hkids := hx.kid
    have hlen := hx.len
    obtain ⟨xl, xb, xs, xk⟩ := x
    replace hli : LiR Iv.cells 3 M0 xk xs := hli
    replace hkids : ∀ k ∈ xk, IvOk M0 k := hkids
    replace hlen : xk.length ≤ 1099511627776 := hlen
    replace ih : ∀ k ∈ xk, ∀ (d : Nat) (M0 : Hp), d ≤ 1024 → roM M0 → IvOk M0 k → CallsV Tryz.prog 33 [k.v, .int .i64 (d : Int)] M0 (Ret0 (.bool (okD k.it d))) := ih
    obtain ⟨p, c, rfl, hla⟩ := hli.openC Iv.len (by decide)
    replace e : ∀ D, okD (Iv.mk xl xb (.slice p xk.length c) xk).it (D + 1) = ((if xl then xb.isEmpty else (xk.map Iv.it).isEmpty) && okDs (xk.map Iv.it) D) := e
    obtain ⟨R, hR⟩ : ∃ R, R = okD (Iv.mk xl xb (.slice p xk.length c) xk).it d := ⟨_, rfl⟩
    rw [← hR]
    show CallsV Tryz.prog _ [.agg #[.bool xl, .string (bs xb), .slice p xk.length c], _] M0 _
    refine callsO gO8_ok Tryz.mix Tryz.pl33 Tryz.func33 rfl Tryz.ntmps33 Tryz.results33 rfl (by first | rfl | assumption) (Nat.le_of_ble_eq_true rfl) (by kernel_rfl) ?_
    rcases d with _ | D
    · have hR0 : R = false := hR.trans e0
      have d1 : decide ((0 : Int) < 1) = true := by decide
      have d2 : ((0 : Int) < 1) = True := by decide
      simp only [push_cast, seval, reduceCtorEq, hR0, d1, d2]
    rw [e] at hR
    have d1 : ¬ ((D : Int) + 1) < 1 := by omega
    have hgo : (xl = true ∧ xb = [] ∨ xl = false ∧ xk = []) ∨ R = false ∧ (xl = true ∧ xb ≠ [] ∨ xl = false ∧ 0 < xk.length) := by
      cases xl with
      | true =>
        cases xb with
        | nil => exact .inl (.inl ⟨rfl, rfl⟩)
        | cons y r => exact .inr ⟨by rw [hR]; rfl, .inl ⟨rfl, by simp⟩⟩
      | false =>
        cases xk with
        | nil => exact .inl (.inr ⟨rfl, rfl⟩)
        | cons y r => exact .inr ⟨by rw [hR]; rfl, .inr ⟨rfl, Nat.succ_pos _⟩⟩
    have b0 : (ByteArray.mk #[]).toList = [] := bs_toList []
    have b1 : (([] : List UInt8) == []) = true := rfl
    have hR' : (xl = true ∧ xb = [] ∨ xl = false ∧ xk = []) → R = okDs (xk.map Iv.it) D := by
      rintro (⟨rfl, rfl⟩ | ⟨rfl, rfl⟩)
      · rw [hR]; exact Bool.true_and _
      · rw [hR]; exact Bool.true_and _
    rcases hgo with (⟨rfl, rfl⟩ | ⟨rfl, hxk⟩) | ⟨hR0, ⟨rfl, h⟩ | ⟨rfl, h⟩⟩
    · replace hR' := hR' (.inl ⟨rfl, rfl⟩)
      simp only [push_cast, seval, reduceCtorEq, d1, b0, b1]
      intro b2 hb2
      refine loopO gO8_ok (pl := Tryz.pl33) Tryz.mix (X := Nat)
        (fun i => ([(1, .int .i64 ((D + 1 : Nat) : Int)), (2, .pointer (some ⟨b2, 0, none⟩)), (5, .int .i64 (i : Int))], ⟨b2, 0, .cel 29, [.bool true, .string (bs []), .slice p xk.length c]⟩ :: M0))
        (fun i => i ≤ xk.length ∧ okDs ((xk.map Iv.it).take i) D = true) (fun i => xk.length - i) 0 ?_ ?_ (by kernel_rfl) ?_
      · exact ⟨Nat.zero_le _, by rw [List.take_zero]; simp only [okDs]⟩
      · simp only [push_cast, seval, reduceCtorEq, subH_self]
      · rintro i ⟨hi, hok⟩
        dsimp only at hi hok ⊢
        rcases Nat.lt_or_ge i xk.length with hlt | hge
        · have i1 : (i : Int) < (xk.length : Int) := by omega
          obtain ⟨k, hk⟩ : ∃ k, xk[i]? = some k := ⟨xk[i], List.getElem?_eq_getElem hlt⟩
          have hkm := List.mem_of_getElem? hk
          have hk2 : (xk.map Iv.it)[i]? = some k.it := by rw [List.getElem?_map, hk]; rfl
          have htk := okDs_take (d := D) hk2
          rw [hok, Bool.true_and] at htk
          rcases hla with rfl | ⟨b, f, d, kd, cs, rfl, he, hat⟩
          · simp at hk
          obtain ⟨a1, a2⟩ := hat i k hk
          have nb := (fresh_findS hb2 he).2
          have kc : k.cells.all oneC = true := Iv.all1 (hkids k hkm).one
          have kv : Value.agg k.cells.toArray = k.v := rfl
          have w1 : IntKind.i64.wrap (D : Int) = (D : Int) := IntWalk.i64_in _ (by omega)
          simp only [push_cast, seval, reduceCtorEq, i1, hlt, nb, he, a1, a2, kc, kv, Iv.len, w1]
          refine useP [_] (M := M0) (fun M1 hr1 he1 => ih k hkm D M1 (by omega) hr1 ((hkids k hkm).congr he1.symm)) ⟨hb2, trivial⟩ ?_
          cases hkd : okD k.it D with
          | true =>
            simp only [push_cast, seval, reduceCtorEq, wrap_i64' (show -9223372036854775808 ≤ (i : Int) + 1 ∧ (i : Int) + 1 ≤ 9223372036854775807 by omega)]
            exact ⟨i + 1, ⟨hlt, htk.trans hkd⟩, by omega, rfl⟩
          | false =>
            have hR2 : R = false := hR'.trans (okDs_not hk2 hkd)
            simp only [push_cast, seval, reduceCtorEq, hR2]
        · obtain rfl : i = xk.length := by omega
          rw [show xk.length = (xk.map Iv.it).length from (List.length_map _).symm, List.take_length] at hok
          simp only [push_cast, seval, reduceCtorEq, Int.lt_irrefl]
          rw [hR', hok]
    · replace hR' := hR' (.inr ⟨rfl, hxk⟩)
      have h1 : ¬ (0 : Int) < (xk.length : Int) := by rw [hxk]; decide
      simp only [push_cast, seval, reduceCtorEq, d1, h1]
      intro b2 hb2
      refine loopO gO8_ok (pl := Tryz.pl33) Tryz.mix (X := Nat)
        (fun i => ([(1, .int .i64 ((D + 1 : Nat) : Int)), (2, .pointer (some ⟨b2, 0, none⟩)), (5, .int .i64 (i : Int))], ⟨b2, 0, .cel 29, [.bool false, .string (bs xb), .slice p xk.length c]⟩ :: M0))
        (fun i => i ≤ xk.length ∧ okDs ((xk.map Iv.it).take i) D = true) (fun i => xk.length - i) 0 ?_ ?_ (by kernel_rfl) ?_
      · exact ⟨Nat.zero_le _, by rw [List.take_zero]; simp only [okDs]⟩
      · simp only [push_cast, seval, reduceCtorEq, subH_self]
      · rintro i ⟨hi, hok⟩
        dsimp only at hi hok ⊢
        rcases Nat.lt_or_ge i xk.length with hlt | hge
        · have i1 : (i : Int) < (xk.length : Int) := by omega
          obtain ⟨k, hk⟩ : ∃ k, xk[i]? = some k := ⟨xk[i], List.getElem?_eq_getElem hlt⟩
          have hkm := List.mem_of_getElem? hk
          have hk2 : (xk.map Iv.it)[i]? = some k.it := by rw [List.getElem?_map, hk]; rfl
          have htk := okDs_take (d := D) hk2
          rw [hok, Bool.true_and] at htk
          rcases hla with rfl | ⟨b, f, d, kd, cs, rfl, he, hat⟩
          · simp at hk
          obtain ⟨a1, a2⟩ := hat i k hk
          have nb := (fresh_findS hb2 he).2
          have kc : k.cells.all oneC = true := Iv.all1 (hkids k hkm).one
          have kv : Value.agg k.cells.toArray = k.v := rfl
          have w1 : IntKind.i64.wrap (D : Int) = (D : Int) := IntWalk.i64_in _ (by omega)
          simp only [push_cast, seval, reduceCtorEq, i1, hlt, nb, he, a1, a2, kc, kv, Iv.len, w1]
          refine useP [_] (M := M0) (fun M1 hr1 he1 => ih k hkm D M1 (by omega) hr1 ((hkids k hkm).congr he1.symm)) ⟨hb2, trivial⟩ ?_
          cases hkd : okD k.it D with
          | true =>
            simp only [push_cast, seval, reduceCtorEq, wrap_i64' (show -9223372036854775808 ≤ (i : Int) + 1 ∧ (i : Int) + 1 ≤ 9223372036854775807 by omega)]
            exact ⟨i + 1, ⟨hlt, htk.trans hkd⟩, by omega, rfl⟩
          | false =>
            have hR2 : R = false := hR'.trans (okDs_not hk2 hkd)
            simp only [push_cast, seval, reduceCtorEq, hR2]
        · obtain rfl : i = xk.length := by omega
          rw [show xk.length = (xk.map Iv.it).length from (List.length_map _).symm, List.take_length] at hok
          simp only [push_cast, seval, reduceCtorEq, Int.lt_irrefl]
          rw [hR', hok]
    · have h1 : (xb == []) = false := beq_eq_false_iff_ne.2 h
      simp only [push_cast, seval, reduceCtorEq, d1, b0, h1, hR0]
    · have h1 : (0 : Int) < (xk.length : Int) := by omega
      simp only [push_cast, seval, reduceCtorEq, d1, h1, hR0]
theorem refbytes_ok (x : Iv) : ∀ M0, roM M0 → IvOk M0 x → (encL x.it).length ≤ 1099511627776 → CallsV Tryz.prog 27 [x.v] M0 (Ret0 (.string (bs (encL x.it)))) := by
  induction x using Iv.ind with
  | h x ih =>
    intro M0 hr hx hlen
    have hm := hr.marks
    have e1 : x.list = true → encL x.it = headL 192 (encLs (x.kids.map Iv.it)).length ++ encLs (x.kids.map Iv.it) := fun h => by rw [encL_kids _ (by rw [Iv.it_list]; exact h), Iv.it_kids]
    have e2 : x.list = false → encL x.it = textL x.bytes := fun h => by rw [encL_text _ (by rw [Iv.it_list]; exact h), Iv.it_bytes]
    have hli := hx.li
    have hkids := hx.kid
    have hxl := hx.len
    obtain ⟨xl, xb, xs, xk⟩ := x
    replace hli : LiR Iv.cells 3 M0 xk xs := hli
    replace hkids : ∀ k ∈ xk, IvOk M0 k := hkids
    replace hxl : xk.length ≤ 1099511627776 := hxl
    replace ih : ∀ k ∈ xk, ∀ (M0 : Hp), roM M0 → IvOk M0 k → (encL k.it).length ≤ 1099511627776 → CallsV Tryz.prog 27 [k.v] M0 (Ret0 (.string (bs (encL k.it)))) := ih
    obtain ⟨p, c, rfl, hla⟩ := hli.openC Iv.len (by decide)
    obtain ⟨W, hW⟩ : ∃ W, W = encL (Iv.mk xl xb (.slice p xk.length c) xk).it := ⟨_, rfl⟩
    replace e1 : xl = true → W = headL 192 (encLs (xk.map Iv.it)).length ++ encLs (xk.map Iv.it) := fun h => hW.trans (e1 h)
    replace e2 : xl = false → W = textL xb := fun h => hW.trans (e2 h)
    rw [← hW] at hlen
    obtain ⟨R, hR⟩ : ∃ R, R = bs W := ⟨_, rfl⟩
    rw [← hW, ← hR]
    show CallsV Tryz.prog _ [.agg #[.bool xl, .string (bs xb), .slice p xk.length c]] M0 _
    refine callsO gO8_ok Tryz.mix Tryz.pl27 Tryz.func27 rfl Tryz.ntmps27 Tryz.results27 rfl (by first | rfl | assumption) (Nat.le_of_ble_eq_true rfl) (by kernel_rfl) ?_
    cases xl with
    | true =>
      have eW := e1 rfl
      obtain ⟨S, hS⟩ : ∃ S, S = encLs (xk.map Iv.it) := ⟨_, rfl⟩
      rw [← hS] at eW
      have hl2 := congrArg List.length eW
      rw [List.length_append] at hl2
      have ce : (encLs ((xk.map Iv.it).take 0)) = [] := by rw [List.take_zero]; simp only [encLs]
      simp only [push_cast, seval, reduceCtorEq]
      intro b2 hb2
      refine loopO gO8_ok (pl := Tryz.pl27) Tryz.mix (X := Nat)
        (fun i => ([(1, .pointer (some ⟨b2, 0, none⟩)), (3, .string (bs (encLs ((xk.map Iv.it).take i)))), (4, .int .i64 (i : Int))], ⟨b2, 0, .cel 29, [.bool true, .string (bs xb), .slice p xk.length c]⟩ :: M0))
        (fun i => i ≤ xk.length) (fun i => xk.length - i) 0 ?_ ?_ (by kernel_rfl) ?_
      · exact Nat.zero_le _
      · rw [ce]
        simp only [push_cast, seval, reduceCtorEq, subH_self]
        rfl
      · intro i hi
        dsimp only at hi ⊢
        rcases Nat.lt_or_ge i xk.length with hlt | hge
        · have i1 : (i : Int) < (xk.length : Int) := by omega
          obtain ⟨k, hk⟩ : ∃ k, xk[i]? = some k := ⟨xk[i], List.getElem?_eq_getElem hlt⟩
          have hkm := List.mem_of_getElem? hk
          have hk2 : (xk.map Iv.it)[i]? = some k.it := by rw [List.getElem?_map, hk]; rfl
          have htk := encLs_take (xk.map Iv.it) hk2
          have hle := encLs_le (xk.map Iv.it) (i + 1)
          have hme := encLs_mem (List.mem_map_of_mem (f := Iv.it) hkm)
          rw [← hS] at hle hme
          rw [htk, List.length_append] at hle
          obtain ⟨P, hP⟩ : ∃ P, P = encLs ((xk.map Iv.it).take i) := ⟨_, rfl⟩
          rw [← hP] at htk hle ⊢
          rcases hla with rfl | ⟨b, f, d, kd, cs, rfl, he, hat⟩
          · simp at hk
          obtain ⟨a1, a2⟩ := hat i k hk
          have nb := (fresh_findS hb2 he).2
          have kc : k.cells.all oneC = true := Iv.all1 (hkids k hkm).one
          have kv : Value.agg k.cells.toArray = k.v := rfl
          have hcat : catB (bs P) (bs (encL k.it)) = some (.string (bs (P ++ encL k.it))) := ncatB _ _ (by omega)
          simp only [push_cast, seval, reduceCtorEq, i1, hlt, nb, he, a1, a2, kc, kv, Iv.len]
          refine useP [_] (M := M0) (fun M1 hr1 he1 => ih k hkm M1 hr1 ((hkids k hkm).congr he1.symm) (by omega)) ⟨hb2, trivial⟩ ?_
          simp only [push_cast, seval, reduceCtorEq, hcat, wrap_i64' (show -9223372036854775808 ≤ (i : Int) + 1 ∧ (i : Int) + 1 ≤ 9223372036854775807 by omega)]
          exact ⟨i + 1, hlt, by omega, by rw [htk], rfl⟩
        · obtain rfl : i = xk.length := by omega
          have ht : (encLs ((xk.map Iv.it).take xk.length)) = S := by rw [hS, show xk.length = (xk.map Iv.it).length from (List.length_map _).symm, List.take_length]
          rw [ht]
          have c1 : ((0 : Int) ≤ (S.length : Int)) := by omega
          have c2 : (S.length : Int) ≤ 1099511627776 := by omega
          have hcat : catB (headK 192 (S.length : Int)) (bs S) = some (.string R) := by
            rw [show headK 192 (S.length : Int) = bs (headL 192 S.length) from headK_eq 192 S.length, ncatB _ _ (by omega), hR, eW]
          simp only [push_cast, seval, reduceCtorEq, Int.lt_irrefl, c1, c2, hcat]
    | false =>
      have eW := e2 rfl
      rw [eW] at hR hlen
      simp only [push_cast, seval, reduceCtorEq]
      intro b2 hb2
      have long : (∀ c, xb = [c] → ¬ c.toNat < 128) → xb.length ≤ 1099511627776 ∧ catB (headK 128 (xb.length : Int)) (bs xb) = some (.string R) := fun h => by
        rw [textL_long h] at hR hlen
        rw [List.length_append] at hlen
        refine ⟨by omega, ?_⟩
        rw [show headK 128 (xb.length : Int) = bs (headL 128 xb.length) from headK_eq 128 xb.length, ncatB _ _ (by omega), hR]
      by_cases h1 : xb.length = 1
      · obtain ⟨c, rfl⟩ := List.length_eq_one_iff.1 h1
        have b0 : (bs [c]).data[0]? = some c := rfl
        have e2 : ([c] : List UInt8).length = 1 := rfl
        by_cases hc : c.toNat < 128
        · rw [textL_one hc] at hR
          have c1 : (c.toNat : Int) < 128 := by omega
          simp only [push_cast, seval, reduceCtorEq, hb2, b0, e2, c1, hc]
          rw [hR]
        · have c1 : ¬ (c.toNat : Int) < 128 := by omega
          obtain ⟨l1, l2⟩ := long (fun d hd => by injection hd with hd; subst hd; exact hc)
          have l3 : catB (headK 128 1) (bs [c]) = some (.string R) := l2
          simp only [push_cast, seval, reduceCtorEq, hb2, b0, e2, c1, hc, l3]
      · have c1 : ((xb.length : Int) == 1) = false := by rw [beq_eq_false_iff_ne]; omega
        obtain ⟨l1, l2⟩ := long (fun d hd => by rw [hd] at h1; exact absurd rfl h1)
        have c2 : (0 : Int) ≤ (xb.length : Int) := by omega
        have c3 : (xb.length : Int) ≤ 1099511627776 := by omega
        simp only [push_cast, seval, reduceCtorEq, hb2, c1, c2, c3, l2]
theorem refRight_R {M : Hp} {x : Iv} (hx : IvOk M x) : ∀ M0, roM M0 → cellsAt M0 = cellsAt M → CallsV Tryz.prog 15 [x.v] M0 (Ret0 (.bool (rightI x.it))) := by
  intro M0 hr he
  have hx0 := hx.congr he.symm
  have hm := hr.marks
  have il : x.cells.length = 3 := rfl
  have xv : x.v.cells.toList = x.cells := rfl
  have xall : x.cells.all oneC = true := Iv.all1 hx0.one
  have rd := rightI_doc x.it
  obtain ⟨R, hR⟩ : ∃ R, R = rightI x.it := ⟨_, rfl⟩
  rw [← hR] at rd ⊢
  refine callsO gO8_ok Tryz.mix Tryz.pl15 Tryz.func15 rfl Tryz.ntmps15 Tryz.results15 rfl (by first | rfl | assumption) (Nat.le_of_ble_eq_true rfl) (by kernel_rfl) ?_
  simp only [push_cast, seval, reduceCtorEq, xv, xall, il]
  intro b1 hb1
  try simp only [push_cast, seval, reduceCtorEq, il]
  refine useP [_] (fun M1 hr1 he1 => refmany_ok x 5001 M1 (by decide) (by decide) hr1 (hx0.congr he1.symm)) ⟨hb1, trivial⟩ ?_
  obtain ⟨n, hn⟩ : ∃ n, n = manyI x.it 5001 := ⟨_, rfl⟩
  rw [← hn] at rd ⊢
  rcases Nat.lt_or_ge 5000 n with h | h
  · have h' : ¬ (n : Int) ≤ 5000 := by omega
    rw [decide_eq_false (by omega), Bool.false_and] at rd
    simp only [push_cast, seval, reduceCtorEq, il, h', rd]
  · have h' : (n : Int) ≤ 5000 := by omega
    rw [decide_eq_true h, Bool.true_and] at rd
    simp only [push_cast, seval, reduceCtorEq, il, h']
    refine useP [_] (fun M1 hr1 he1 => refright_ok x 16 M1 (by decide) hr1 (hx0.congr he1.symm)) ⟨hb1, trivial⟩ ?_
    simp only [push_cast, seval, reduceCtorEq, il, rd]
theorem refenc_R {M : Hp} {x : Iv} (hx : IvOk M x) (hl : (encL x.it).length ≤ 1099511627776) : ∀ M0, roM M0 → cellsAt M0 = cellsAt M → CallsV Tryz.prog 11 [x.v] M0 (Ret0 (.tuple #[.string (bs (encD x.it).1), .int .i64 (encD x.it).2])) := by
  intro M0 hr he
  have hx0 := hx.congr he.symm
  have hm := hr.marks
  have il : x.cells.length = 3 := rfl
  have it3 : List.take 3 x.cells = x.cells := List.take_of_length_le (Nat.le_of_eq rfl)
  have xv : x.v.cells.toList = x.cells := rfl
  have xall : x.cells.all oneC = true := Iv.all1 hx0.one
  refine callsO gO8_ok Tryz.mix Tryz.pl11 Tryz.func11 rfl Tryz.ntmps11 Tryz.results11 rfl (by first | rfl | assumption) (Nat.le_of_ble_eq_true rfl) (by kernel_rfl) ?_
  simp only [push_cast, seval, reduceCtorEq, xv, xall, il]
  intro b1 hb1
  try simp only [push_cast, seval, reduceCtorEq, il, it3]
  refine useP [_] (v := .bool (rightI x.it)) (fun M1 hr1 he1 => refRight_R hx0 M1 hr1 he1) ⟨hb1, trivial⟩ ?_
  cases hri : rightI x.it with
  | false =>
    simp only [push_cast, seval, reduceCtorEq, il, it3]
    unfold encD
    rw [hri]
    rfl
  | true =>
    simp only [push_cast, seval, reduceCtorEq, il, it3]
    refine useP [_] (fun M1 hr1 he1 => refbytes_ok x M1 hr1 (hx0.congr he1.symm) hl) ⟨hb1, trivial⟩ ?_
    have hz : (bs (encL x.it)).size = (encL x.it).length := rfl
    rcases Nat.lt_or_ge 1048576 (encL x.it).length with h | h
    · have h' : (1048576 : Int) < ((encL x.it).length : Int) := by omega
      simp only [push_cast, seval, reduceCtorEq, hz, h']
      unfold encD
      rw [hri, if_pos rfl, if_neg (by omega)]
      rfl
    · have h' : ¬ (1048576 : Int) < ((encL x.it).length : Int) := by omega
      simp only [push_cast, seval, reduceCtorEq, hz, h']
      unfold encD
      rw [hri, if_pos rfl, if_pos h]
end Go.Proofs.YtolmipnaheifcaaGreatDoor
set_option linter.unusedSimpArgs false
set_option linter.unusedVariables false
namespace Go.Ev
def chainB (ops : Array Oper) (ch : List Nat) : Bool := decide ch.Nodup && (List.range ch.length).all fun k => decide (ch.getD k 0 < ops.size) && (k == 0 || (ops[ch.getD k 0]?).any fun o => o.after.any fun e => Region.binds .any e && e.on == ch.getD (k - 1) 0)
theorem chainB_spec {ops : Array Oper} {ch : List Nat} (h : chainB ops ch = true) : ch.Nodup ∧ ∀ k c, ch[k]? = some c → c < ops.size ∧ ∀ o, ops[c]? = some o → ∀ c', 0 < k → ch[k - 1]? = some c' → ∃ e ∈ o.after, Region.binds .any e = true ∧ e.on = c' := by
  simp only [chainB, Bool.and_eq_true, decide_eq_true_eq, List.all_eq_true] at h
  refine ⟨h.1, fun k c hk => ?_⟩
  have hlt := (List.getElem?_eq_some_iff.1 hk).1
  have := h.2 k (List.mem_range.2 hlt)
  rw [List.getD_eq_getElem?_getD, hk] at this
  simp only [Option.getD_some] at this
  obtain ⟨h1, h2⟩ := this
  refine ⟨h1, fun o ho c' h0 hc' => ?_⟩
  rw [ho, List.getD_eq_getElem?_getD, hc'] at h2
  simp only [Option.any_some, Option.getD_some, Bool.or_eq_true, beq_iff_eq] at h2
  rcases h2 with h2 | h2
  · omega
  · obtain ⟨e, he, heb⟩ := Array.any_eq_true'.1 h2
    simp only [Bool.and_eq_true, beq_iff_eq] at heb
    exact ⟨e, he, heb.1, heb.2⟩
theorem drawC {P : Program} {r : Option Nat} {n : Nat} {G : Gam} (hG : GamOk P G) (hmix : P.follows .mixedOrders = true) {id : Nat} {ops : Array Oper} {K : Exit → Tm → Hp → Prop} {T : Tm} {H : Hp} (Tb : Tm) (ch : List Nat) (val : Nat → Value) (St : Nat → (Nat → Value) → Hp → Prop)
    (hb : backB ops = true) (hd : dstB n ops = true) (hc : chainB ops ch = true) (hTb : subT T Tb) (hTd : (Tb.all fun x => !(ops.toList.filterMap (·.dst)).contains x.1) = true) (h0 : St 0 val H)
    (obs : ∀ (i : Nat) (o : Oper), ops[i]? = some o → i ∉ ch → ∀ (k : Nat) (vals : Nat → Value) (T' : Tm) (H' : Hp), St k vals H' → ApartE H' → (∀ j, j ∉ ch → vals j = val j) → (∀ j, (o.after.any fun e => Region.binds .any e && e.on == j) = true → ∀ s, (ops[j]?).bind (·.dst) = some s → getT T' s = some (vals j)) →
      (∀ q c, ch[q]? = some c → ((ops[c]?).any fun p => p.after.any fun e => Region.binds .any e && e.on == i) = true → k ≤ q) → (∀ q c, ch[q]? = some c → (o.after.any fun e => Region.binds .any e && e.on == c) = true → q < k) → subT T' Tb →
      evOp P G T' H' o.op (fun v H'' => (o.dst.isSome = true → v = val i) ∧ H'' = H'))
    (act : ∀ (k c : Nat) (o : Oper), ch[k]? = some c → ops[c]? = some o → ∀ (vals : Nat → Value) (T' : Tm) (H' : Hp), St k vals H' → ApartE H' → (∀ j, j ∉ ch → vals j = val j) → (∀ j, (o.after.any fun e => Region.binds .any e && e.on == j) = true → ∀ s, (ops[j]?).bind (·.dst) = some s → getT T' s = some (vals j)) → subT T' Tb →
      evOp P G T' H' o.op (fun v H'' => ∃ H3, H''.Perm H3 ∧ marksOf H3 = marksOf H'' ∧ St (k + 1) (upd vals c v) H3))
    (fin : ∀ (vals : Nat → Value) (H' : Hp), St ch.length vals H' → ApartE H' → (∀ j, j ∉ ch → vals j = val j) → K .normal (dstsL vals Tb ops.toList 0) H') : WpV P r n (.region id ops true) K T H := by
  obtain ⟨hnd, hch⟩ := chainB_spec hc
  have hinj : ∀ i j, i < j → j < ch.length → ch[i]? ≠ ch[j]? := fun i j hij hj h => by
    have hi : i < ch.length := by omega
    rw [List.getElem?_eq_getElem hi, List.getElem?_eq_getElem hj] at h
    exact List.pairwise_iff_getElem.1 hnd i j hi hj hij (Option.some.inj h)
  refine drawI hG hmix (fun l T' H' => ∃ H1 : Hp, H'.Perm H1 ∧ marksOf H1 = marksOf H' ∧ ∃ k vals, k ≤ ch.length ∧ St k vals H1 ∧ (∀ q c, ch[q]? = some c → l c = decide (q < k)) ∧ (∀ j, j ∉ ch → vals j = val j) ∧
    (∀ i o, ops[i]? = some o → l i = true → (∀ e ∈ o.after, Region.binds .any e = true → l e.on = true) ∧ ∀ s, o.dst = some s → getT T' s = some (vals i)) ∧ subT T' Tb) hb ?_ ?_ ?_
  · exact ⟨H, List.Perm.refl _, rfl, 0, val, Nat.zero_le _, h0, fun q c _ => by simp, fun _ _ => rfl, fun _ _ _ h => by simp at h, hTb⟩
  · rintro l T' H' i o hap ⟨H1, hpm, hmk, k, vals, hk, hst, hl, hv, h1, h2⟩ ho hli hdeps
    have hap1 : ApartE H1 := (hpm.pairwise_iff (fun {x y} hxy hw => (hxy hw.symm).symm)).1 hap
    have hi := (Array.getElem?_eq_some_iff.1 ho).1
    have hdep : ∀ j, (o.after.any fun e => Region.binds .any e && e.on == j) = true → l j = true ∧ ∀ s, (ops[j]?).bind (·.dst) = some s → getT T' s = some (vals j) := fun j hj => by
      obtain ⟨e, he, heb⟩ := Array.any_eq_true'.1 hj
      simp only [Bool.and_eq_true, beq_iff_eq] at heb
      obtain ⟨hbb, rfl⟩ := heb
      have hlt := (backB_spec hb ho).2 e he hbb
      have hp : ops[e.on]? = some ops[e.on] := Array.getElem?_eq_getElem (by omega)
      exact ⟨hdeps e he hbb, fun s hs => (h1 e.on _ hp (hdeps e he hbb)).2 s (by rw [hp] at hs; exact hs)⟩
    have hni : ∀ j, l j = true → j ≠ i := fun j hj h => by rw [h, hli] at hj; cases hj
    have put : ∀ (vals' : Nat → Value) (v : Value), (o.dst.isSome = true → v = vals' i) → (∀ j, j ≠ i → vals' j = vals j) → (∀ j p, ops[j]? = some p → (j == i || l j) = true → (∀ e ∈ p.after, Region.binds .any e = true → (e.on == i || l e.on) = true) ∧ ∀ s, p.dst = some s → getT (putT n T' o.dst v) s = some (vals' j)) ∧ subT (putT n T' o.dst v) Tb := fun vals' v hvi hvj => by
      refine ⟨fun j p hp hj => ?_, subT_of fun k u hm => ?_⟩
      · by_cases hji : j = i
        · subst hji
          obtain rfl : o = p := Option.some.inj (ho.symm.trans hp)
          refine ⟨fun e he hbb => by rw [hdeps e he hbb, Bool.or_true], fun s hs => ?_⟩
          rw [hs, getT_put (dstB_spec hd ho hs).1, if_pos rfl, hvi (by rw [hs]; rfl)]
        · have hjl : l j = true := by simpa [hji] using hj
          obtain ⟨g1, g4⟩ := h1 j p hp hjl
          refine ⟨fun e he hbb => by rw [g1 e he hbb, Bool.or_true], fun s hs => ?_⟩
          rw [hvj j hji]
          cases hod : o.dst with
          | none => exact g4 s hs
          | some s' =>
            rw [getT_put (dstB_spec hd ho hod).1, if_neg (fun hss => hji ((dstB_spec hd hp hs).2 i o ho (by rw [hod, hss])))]
            exact g4 s hs
      · have h9 := subT_mem h2 hm
        cases hod : o.dst with
        | none => exact h9
        | some s' =>
          rw [getT_put (dstB_spec hd ho hod).1, if_neg (fun hks => ?_)]
          · exact h9
          · have := List.all_eq_true.1 hTd (k, u) hm
            simp only [Bool.not_eq_true', List.contains_eq_mem, decide_eq_false_iff_not] at this
            exact this (List.mem_filterMap.2 ⟨o, List.mem_of_getElem? (by simpa using ho), by rw [hod, hks]⟩)
    by_cases him : i ∈ ch
    · obtain ⟨q, hq⟩ := List.getElem?_of_mem him
      have hqk : k ≤ q := by
        have := hl q i hq
        rw [hli] at this
        have := of_decide_eq_false this.symm
        omega
      have hqe : q = k := by
        rcases Nat.eq_zero_or_pos q with h | h
        · omega
        · have hlt := (List.getElem?_eq_some_iff.1 hq).1
          have hc' : ch[q - 1]? = some ch[q - 1] := List.getElem?_eq_getElem (by omega)
          obtain ⟨e, he, hbb, heo⟩ := (hch q i hq).2 o ho _ h hc'
          have h5 := hl (q - 1) _ hc'
          rw [← heo, hdeps e he hbb] at h5
          have := of_decide_eq_true h5.symm
          omega
      subst hqe
      refine ⟨_, _, hpm, hmk, act q i o hq ho vals T' H1 hst hap1 hv (fun j hj => (hdep j hj).2) h2, ?_⟩
      rintro v H'' ⟨H3, hp3, hm3, hst'⟩
      have hlt := (List.getElem?_eq_some_iff.1 hq).1
      obtain ⟨p1, p2⟩ := put (upd vals i v) v (fun _ => (upd_self ..).symm) (fun j hj => upd_ne hj)
      refine ⟨H3, hp3, hm3, q + 1, _, hlt, hst', fun q' c hc' => ?_, fun j hj => by rw [upd_ne (fun h => hj (by rw [h]; exact him)), hv j hj], p1, p2⟩
      by_cases hqq : q' = q
      · subst hqq
        obtain rfl := Option.some.inj (hc'.symm.trans hq)
        simp
      · have hci : c ≠ i := fun h => hqq (by
          subst h
          rcases Nat.lt_trichotomy q' q with hq3 | hq3 | hq3
          · exact absurd (hc'.trans hq.symm) (hinj q' q hq3 hlt)
          · exact hq3
          · exact absurd (hq.trans hc'.symm) (hinj q q' hq3 (List.getElem?_eq_some_iff.1 hc').1))
        show (c == i || l c) = _
        rw [hl q' c hc', beq_eq_false_iff_ne.2 hci, Bool.false_or, decide_eq_decide]
        omega
    · refine ⟨_, _, hpm, hmk, obs i o ho him k vals T' H1 hst hap1 hv (fun j hj => (hdep j hj).2) (fun q c hcq hw => ?_) (fun q c hcq hw => ?_) h2, ?_⟩
      · cases hpc : ops[c]? with
        | none => rw [hpc] at hw; cases hw
        | some p =>
          rw [hpc] at hw
          obtain ⟨e, he, heb⟩ := Array.any_eq_true'.1 hw
          simp only [Bool.and_eq_true, beq_iff_eq] at heb
          obtain ⟨hbb, heo⟩ := heb
          rcases Nat.lt_or_ge q k with h | h
          · have h5 := (h1 c p hpc (by rw [hl q c hcq, decide_eq_true h])).1 e he hbb
            rw [heo, hli] at h5
            cases h5
          · exact h
      · have h5 := (hdep c hw).1
        rw [hl q c hcq] at h5
        exact of_decide_eq_true h5
      · rintro v H'' ⟨hvv, rfl⟩
        obtain ⟨p1, p2⟩ := put vals v (fun h => by rw [hvv h, hv i him]) (fun _ _ => rfl)
        refine ⟨_, List.Perm.refl _, rfl, k, vals, hk, hst, fun q c hcq => ?_, hv, p1, p2⟩
        have hci : c ≠ i := fun h => him (h ▸ List.mem_of_getElem? hcq)
        show (c == i || l c) = _
        rw [hl q c hcq, beq_eq_false_iff_ne.2 hci, Bool.false_or]
  · rintro l T' H' hall hap ⟨H1, hpm, hmk, k, vals, hk, hst, hl, hv, h1, h2⟩
    have hkl : k = ch.length := by
      rcases Nat.lt_or_ge k ch.length with h | h
      · have hq : ch[k]? = some ch[k] := List.getElem?_eq_getElem h
        have h5 := hl k _ hq
        rw [hall _ (hch k _ hq).1] at h5
        have := of_decide_eq_true h5.symm
        omega
      · omega
    subst hkl
    have hap1 : ApartE H1 := (hpm.pairwise_iff (fun {x y} hxy hw => (hxy hw.symm).symm)).1 hap
    refine ⟨_, _, hpm, hmk, subT_of fun k u hm => ?_, fin vals H1 hst hap1 hv⟩
    rcases dstsL_mem hm with h | ⟨j, o, ho, hs, rfl⟩
    · exact subT_mem h2 h
    · have ho' : ops[j]? = some o := by simpa using ho
      rw [Nat.zero_add]
      exact (h1 j o ho' (hall j (Array.getElem?_eq_some_iff.1 ho').1)).2 k hs
end Go.Ev
set_option linter.unusedSimpArgs false
set_option linter.unusedVariables false
namespace Go.Ev
theorem numN_snocU (l : List UInt8) (c : UInt8) : numN (l ++ [c]) = 256 * numN l + c.toNat := by
  unfold numN
  rw [List.reverse_append]
  show beN (c :: l.reverse) = _
  rw [beN]; omega
theorem numN_takeU (l : List UInt8) {i : Nat} (h : i < l.length) : numN (l.take (i + 1)) = 256 * numN (l.take i) + (l.getD i 0).toNat := by
  rw [List.take_add_one, List.getElem?_eq_getElem h]
  show numN (l.take i ++ [l[i]]) = _
  rw [numN_snocU, getD_lt h]
def capN (z n : Nat) : Prop := z < 281474976710656 ∧ (z < 1099511627776 → n = z) ∧ (1099511627776 ≤ z → 1099511627776 ≤ n)
end Go.Ev
namespace Go.Proofs.YtolmipnaheifcaaGreatDoor
open Go Go.Ev Go.Proofs
set_option maxRecDepth 100000
set_option maxHeartbeats 4000000
def stE (bp : Nat) (s : List UInt8) (a m e : Nat) : Ent := ⟨bp, 0, .cel 75, [.string (bs s), .int .i64 (a : Int), .int .i64 (m : Int), .int .i64 (e : Int)]⟩
theorem reffail_ok {bp : Nat} {s : List UInt8} {a m : Nat} (e at_ : Nat) : CallsV Tryz.prog 39 [.pointer (some ⟨bp, 0, none⟩), .int .i64 (e : Int), .int .i64 (at_ : Int)] [stE bp s a m 0] (fun v H' => v = .tuple #[] ∧ H' = [stE bp s at_ m e]) := by
  unfold stE
  refine callsO gO8_ok Tryz.mix Tryz.pl39 Tryz.func39 rfl Tryz.ntmps39 Tryz.results39 rfl (by first | rfl | assumption) (Nat.le_of_ble_eq_true rfl) (by kernel_rfl) ?_
  simp only [push_cast, seval, reduceCtorEq]
  exact ⟨_, .refl _, rfl⟩
theorem reffail_no {bp : Nat} {s : List UInt8} {a m e0 : Nat} (e at_ : Nat) (h : e0 ≠ 0) : CallsV Tryz.prog 39 [.pointer (some ⟨bp, 0, none⟩), .int .i64 (e : Int), .int .i64 (at_ : Int)] [stE bp s a m e0] (fun v H' => v = .tuple #[] ∧ H' = [stE bp s a m e0]) := by
  have h1 : ((e0 : Int) == 0) = false := by rw [beq_eq_false_iff_ne]; omega
  unfold stE
  refine callsO gO8_ok Tryz.mix Tryz.pl39 Tryz.func39 rfl Tryz.ntmps39 Tryz.results39 rfl (by first | rfl | assumption) (Nat.le_of_ble_eq_true rfl) (by kernel_rfl) ?_
  simp only [push_cast, seval, reduceCtorEq, h1]
  exact ⟨_, .refl _, rfl⟩
def SizeK2 (bp : Nat) (s : List UInt8) (k e a m : Nat) : Value → Hp → Prop := fun v H' =>
  (∃ x p, sizeD s k e a = .bad x p ∧ x ≠ 0 ∧ v = .int .i64 0 ∧ H' = [stE bp s p m x]) ∨
  (∃ n q : Nat, sizeD s k e a = .bad 10 a ∧ e - q < n ∧ q ≤ e ∧ n < 281474976710656 ∧ v = .int .i64 (n : Int) ∧ H' = [stE bp s q m 0]) ∨
  (∃ n q z : Nat, sizeD s k e a = .ok n q z ∧ v = .int .i64 (n : Int) ∧ H' = [stE bp s q m 0])
theorem refsize_ok {bp : Nat} {s : List UInt8} {k e a m : Nat} (hk : k ≤ 192) (hs : s.length ≤ 1048576) (he : e ≤ s.length) (ha : a < e) (h1 : k ≤ (s.getD a 0).toNat) (h2 : (s.getD a 0).toNat < k + 64) :
    CallsV Tryz.prog 61 [.pointer (some ⟨bp, 0, none⟩), .int .i64 (k : Int), .int .i64 (e : Int)] [stE bp s a m 0] (SizeK2 bp s k e a m) := by
  have b0 := nb_at (s := s) (a := a) (by omega)
  obtain ⟨n, hn⟩ : ∃ n, n = (s.getD a 0).toNat - k := ⟨_, rfl⟩
  have w0 : IntKind.i64.wrap (((s.getD a 0).toNat : Int) - (k : Int)) = (n : Int) := by rw [show ((s.getD a 0).toNat : Int) - (k : Int) = (n : Int) by omega]; exact IntWalk.i64_in _ (by omega)
  obtain ⟨c, hc⟩ : ∃ c, c = s.getD a 0 := ⟨_, rfl⟩
  rw [← hc] at b0 w0
  have wc : IntKind.i64.wrap (c.toNat : Int) = (c.toNat : Int) := IntWalk.i64_in _ (by have := c.toNat_lt; omega)
  obtain ⟨p, hp⟩ : ∃ p, p = a + 1 := ⟨_, rfl⟩
  have wp : IntKind.i64.wrap ((a : Int) + 1) = (p : Int) := by rw [show (a : Int) + 1 = (p : Int) by omega]; exact IntWalk.i64_in _ (by omega)
  have hD : sizeD s k e a = if n ≤ 55 then (if e - p < n then .bad 10 a else .ok n p 0) else if e - p < n - 55 then .bad 10 a
    else if s.getD p 0 = 0 ∨ numN ((s.drop p).take (n - 55)) ≤ 55 then .bad 11 p
    else if e - (p + (n - 55)) < numN ((s.drop p).take (n - 55)) then .bad 10 a
    else .ok (numN ((s.drop p).take (n - 55))) (p + (n - 55)) 0 := by rw [hn, hp]; rfl
  have hal : a < s.length := by omega
  have hal' : (a : Int) < (s.length : Int) := by omega
  have hSt : ∀ a m e, stE bp s a m e = ⟨bp, 0, .cel 75, [.string (bs s), .int .i64 (a : Int), .int .i64 (m : Int), .int .i64 (e : Int)]⟩ := fun _ _ _ => rfl
  rw [hSt]
  refine callsO gO8_ok Tryz.mix Tryz.pl61 Tryz.func61 rfl Tryz.ntmps61 Tryz.results61 rfl (by first | rfl | assumption) (Nat.le_of_ble_eq_true rfl) (by kernel_rfl) ?_
  by_cases c1 : n ≤ 55
  · have d1 : (n : Int) ≤ 55 := by omega
    rw [if_pos c1] at hD
    simp only [push_cast, seval, reduceCtorEq, hal, hal', b0, w0, wc, d1, wp]
    refine ⟨_, .refl _, ?_⟩
    by_cases c2 : e - p < n
    · rw [if_pos c2] at hD
      exact .inr (.inl ⟨n, p, hD, c2, by omega, by omega, rfl, rfl⟩)
    · rw [if_neg c2] at hD
      exact .inr (.inr ⟨n, p, 0, hD, rfl, rfl⟩)
  have d1 : ¬ (n : Int) ≤ 55 := by omega
  rw [if_neg c1] at hD
  obtain ⟨g, hg⟩ : ∃ g, g = n - 55 := ⟨_, rfl⟩
  have w2 : IntKind.i64.wrap ((n : Int) - 55) = (g : Int) := by rw [show (n : Int) - 55 = (g : Int) by omega]; exact IntWalk.i64_in _ (by omega)
  rw [← hg] at hD
  by_cases c2 : e - p < g
  · have d2 : (e : Int) < (p : Int) + (g : Int) := by omega
    have d2' : e < p + g := by omega
    rw [if_pos c2] at hD
    simp only [push_cast, seval, reduceCtorEq, hal, hal', b0, w0, wc, d1, w2, wp, wrap_i64' (show -9223372036854775808 ≤ (p : Int) + (g : Int) ∧ (p : Int) + (g : Int) ≤ 9223372036854775807 by omega), d2, d2']
    refine CallsV.useM (m := stE bp s p m 0) (Hf := []) (reffail_ok 10 a) (by rw [hSt]; simp only [push_cast, seval, reduceCtorEq]) rfl trivial ?_
    rintro v N ⟨rfl, rfl⟩
    refine ⟨⟨trivial, trivial⟩, rfl, fun hfr => ?_⟩
    clear hfr
    unfold stE
    simp only [push_cast, seval, reduceCtorEq]
    exact ⟨_, .refl _, .inl ⟨10, a, hD, by decide, rfl, rfl⟩⟩
  have d2 : ¬ (e : Int) < (p : Int) + (g : Int) := by omega
  have d2' : ¬ e < p + g := by omega
  rw [if_neg c2] at hD
  simp only [push_cast, seval, reduceCtorEq, hal, hal', b0, w0, wc, d1, w2, wp, wrap_i64' (show -9223372036854775808 ≤ (p : Int) + (g : Int) ∧ (p : Int) + (g : Int) ≤ 9223372036854775807 by omega), d2, d2']
  obtain ⟨t, ht⟩ : ∃ t, t = (s.drop p).take g := ⟨_, rfl⟩
  have tl : t.length = g := by rw [ht, List.length_take, List.length_drop]; omega
  rw [← ht] at hD
  have g1 : 1 ≤ g := by omega
  have g8 : g ≤ 8 := by omega
  have at_ : ∀ i, i < g → t.getD i 0 = s.getD (p + i) 0 := fun i hi => by
    rw [getD_lt (by omega), getD_lt (by omega)]
    simp only [ht, List.getElem_take, List.getElem_drop]
  refine loopO gO8_ok (pl := Tryz.pl61) Tryz.mix (X := Nat × Nat)
    (fun x => ([(0, .pointer (some ⟨bp, 0, none⟩)), (7, .int .i64 (a : Int)), (9, .int .i64 (g : Int)), (10, .int .i64 (x.2 : Int)), (11, .int .i64 (x.1 : Int))], [⟨bp, 0, .cel 75, [.string (bs s), .int .i64 (p : Int), .int .i64 (m : Int), .int .i64 0]⟩]))
    (fun x => x.1 ≤ g ∧ capN x.2 (numN (t.take x.1))) (fun x => g - x.1) (0, 0) ?_ ?_ (by kernel_rfl) ?_
  · exact ⟨Nat.zero_le _, by rw [List.take_zero]; exact ⟨by decide, fun _ => rfl, fun h => absurd h (by decide)⟩⟩
  · simp only [push_cast, seval, reduceCtorEq, subH_self]
  · rintro ⟨i, z⟩ ⟨hi, hz⟩
    dsimp only at hi hz ⊢
    obtain ⟨z1, z2, z3⟩ := hz
    rcases Nat.lt_or_ge i g with hlt | hge
    · have i1 : (i : Int) < (g : Int) := by omega
      have hnt := numN_takeU t (i := i) (by omega)
      rw [at_ i hlt] at hnt
      have bi := nb_at (s := s) (a := p + i) (by omega)
      obtain ⟨ch, hch⟩ : ∃ c, c = s.getD (p + i) 0 := ⟨_, rfl⟩
      have hcl := ch.toNat_lt
      rw [← hch] at hnt bi
      have p1 : (p : Int) + (i : Int) < (s.length : Int) := by omega
      have p2 : p + i < s.length := by omega
      have p3 : (0 : Int) ≤ (p : Int) + (i : Int) := by omega
      have p4 : ((p : Int) + (i : Int)).toNat = p + i := by omega
      have w3 : IntKind.i64.wrap (ch.toNat : Int) = (ch.toNat : Int) := IntWalk.i64_in _ (by omega)
      by_cases hz0 : z < 1099511627776
      · have z0 : (z : Int) < 1099511627776 := by omega
        have w1 : IntKind.i64.wrap (256 * (z : Int)) = 256 * (z : Int) := IntWalk.i64_in _ (by omega)
        have w2 : IntKind.i64.wrap (256 * (z : Int) + (ch.toNat : Int)) = ((256 * z + ch.toNat : Nat) : Int) := by rw [show 256 * (z : Int) + (ch.toNat : Int) = ((256 * z + ch.toNat : Nat) : Int) by omega]; exact IntWalk.i64_in _ (by omega)
        obtain ⟨z', hz'⟩ : ∃ z', z' = 256 * z + ch.toNat := ⟨_, rfl⟩
        rw [← hz'] at w2
        simp only [push_cast, seval, reduceCtorEq, i1, z0, hz0, w1, w2, w3, p1, p2, p3, p4, bi, wrap_i64' (show -9223372036854775808 ≤ (p : Int) + (i : Int) ∧ (p : Int) + (i : Int) ≤ 9223372036854775807 by omega), wrap_i64' (show -9223372036854775808 ≤ (i : Int) + 1 ∧ (i : Int) + 1 ≤ 9223372036854775807 by omega)]
        rw [z2 hz0] at hnt
        exact ⟨(i + 1, z'), ⟨hlt, by rw [hnt, ← hz']; exact ⟨by omega, fun _ => rfl, fun h => h⟩⟩, by dsimp only; omega, rfl, rfl⟩
      · have z0 : ¬ (z : Int) < 1099511627776 := by omega
        simp only [push_cast, seval, reduceCtorEq, i1, z0, hz0, wrap_i64' (show -9223372036854775808 ≤ (i : Int) + 1 ∧ (i : Int) + 1 ≤ 9223372036854775807 by omega)]
        exact ⟨(i + 1, z), ⟨hlt, by rw [hnt]; exact ⟨z1, fun h => absurd h hz0, fun h => by have := z3 h; omega⟩⟩, by dsimp only; omega, rfl, rfl⟩
    · obtain rfl : i = g := by omega
      rw [← tl, List.take_length] at z2 z3
      obtain ⟨N, hN⟩ : ∃ N, N = numN t := ⟨_, rfl⟩
      rw [← hN] at z2 z3 hD
      have bi := nb_at (s := s) (a := p) (by omega)
      have pl : p < s.length := by omega
      have pl' : (p : Int) < (s.length : Int) := by omega
      have fail11 : s.getD p 0 = 0 ∨ N ≤ 55 → sizeD s k e a = .bad 11 p := fun h => by rw [hD, if_pos h]
      by_cases hz0 : s.getD p 0 = 0
      · have e0 : (((s.getD p 0).toNat : Int) == 0) = true := by rw [hz0]; rfl
        simp only [push_cast, seval, reduceCtorEq, Int.lt_irrefl, pl, pl', bi, e0, wp]
        refine CallsV.useM (m := stE bp s p m 0) (Hf := []) (reffail_ok 11 p) (by rw [hSt]; simp only [push_cast, seval, reduceCtorEq]) rfl trivial ?_
        rintro v N2 ⟨rfl, rfl⟩
        refine ⟨⟨trivial, trivial⟩, rfl, fun hfr => ?_⟩
        clear hfr
        unfold stE
        simp only [push_cast, seval, reduceCtorEq]
        exact ⟨_, .refl _, .inl ⟨11, p, fail11 (.inl hz0), by decide, rfl, rfl⟩⟩
      · have e0 : (((s.getD p 0).toNat : Int) == 0) = false := beq_eq_false_iff_ne.2 fun h => hz0 (UInt8.toNat_inj.1 (show (s.getD p 0).toNat = 0 by omega))
        by_cases h55 : z < 56
        · have d5 : (z : Int) < 56 := by omega
          have hN5 : N ≤ 55 := by have := z2 (by omega); omega
          simp only [push_cast, seval, reduceCtorEq, Int.lt_irrefl, pl, pl', bi, e0, d5, h55, wp]
          refine CallsV.useM (m := stE bp s p m 0) (Hf := []) (reffail_ok 11 p) (by rw [hSt]; simp only [push_cast, seval, reduceCtorEq]) rfl trivial ?_
          rintro v N2 ⟨rfl, rfl⟩
          refine ⟨⟨trivial, trivial⟩, rfl, fun hfr => ?_⟩
          clear hfr
          unfold stE
          simp only [push_cast, seval, reduceCtorEq]
          exact ⟨_, .refl _, .inl ⟨11, p, fail11 (.inr hN5), by decide, rfl, rfl⟩⟩
        · have d5 : ¬ (z : Int) < 56 := by omega
          have hN5 : ¬ N ≤ 55 := by
            rcases Nat.lt_or_ge z 1099511627776 with h | h
            · have := z2 h; omega
            · have := z3 h; omega
          rw [if_neg (fun h => h.elim hz0 hN5)] at hD
          simp only [push_cast, seval, reduceCtorEq, Int.lt_irrefl, pl, pl', bi, e0, d5, h55, wrap_i64' (show -9223372036854775808 ≤ (p : Int) + (i : Int) ∧ (p : Int) + (i : Int) ≤ 9223372036854775807 by omega)]
          refine ⟨_, .refl _, ?_⟩
          rcases Nat.lt_or_ge z 1099511627776 with h | h
          · rw [z2 h] at hD
            by_cases h9 : e - (p + i) < z
            · rw [if_pos h9] at hD
              exact .inr (.inl ⟨z, p + i, hD, h9, by omega, z1, rfl, rfl⟩)
            · rw [if_neg h9] at hD
              exact .inr (.inr ⟨z, p + i, 0, hD, rfl, rfl⟩)
          · have := z3 h
            rw [if_pos (by omega)] at hD
            exact .inr (.inl ⟨z, p + i, hD, by omega, by omega, z1, rfl, rfl⟩)
end Go.Proofs.YtolmipnaheifcaaGreatDoor
