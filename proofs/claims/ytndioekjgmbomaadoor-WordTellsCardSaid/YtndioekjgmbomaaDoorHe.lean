/- He: the document's Hex and digit. -/
import Derived.Test.YtndioekjgmbomaaDoorHd
import Derived.Test.YtndioekjgmbomaaDoorWi
import Derived.Test.YtndioekjgmbomaaDoorSh
set_option linter.unusedSimpArgs false
set_option linter.unusedVariables false
namespace Go.Ev
theorem hexS_cut : ∀ k < 16, hexS.extract k (k + 1) = bs [hexD k] := by decide +kernel
theorem hex2_drop {l : List UInt8} {i : Nat} (h : i < l.length) : hex2 (l.drop i) = hexD ((l[i]).toNat / 16) :: hexD ((l[i]).toNat % 16) :: hex2 (l.drop (i + 1)) := by
  rw [List.drop_eq_getElem_cons h]; rfl
noncomputable def dgB : Int → Int → Bool := hid fun c b => decide ((0 ≤ c ∧ c < 256) ∧ (b = 10 ∨ b = 16))
theorem dgB_eq (c b : Int) : dgB c b = decide ((0 ≤ c ∧ c < 256) ∧ (b = 10 ∨ b = 16)) := by unfold dgB; rw [hid_eq]
noncomputable def dgN : Int → Int → Int := hid fun c b => digI b.toNat c.toNat.toUInt8
theorem dgN_eq (c b : Int) : dgN c b = digI b.toNat c.toNat.toUInt8 := by unfold dgN; rw [hid_eq]
noncomputable def dgG : List Value → Option Value
  | [.int .u8 c, .int .i64 b] => if dgB c b then some (.int .i64 (dgN c b)) else none
  | _ => none
attribute [push_cast] dgG
end Go.Ev
namespace Go.Proofs.YtndioekjgmbomaaDoor
open Go Go.Ev Go.Proofs
set_option maxRecDepth 100000
set_option maxHeartbeats 4000000
theorem refHex (w : W) : CallsV Tryd.prog 24 [w.v] [] (Ret0 (.string (bs (hexW w)))) := by
  have hlen : (hex2 (wbytes w)).length = 64 := by rw [hex2_len, wbytes_len]
  have hwl := wbytes_len w
  obtain ⟨R, hR⟩ : ∃ R, R = strip1 48 (hex2 (wbytes w)) := ⟨_, rfl⟩
  have hH := hexW_eq1 w
  rw [← hR] at hH
  refine callsO (noG_ok _) Tryd.mix Tryd.pl24 Tryd.func24 rfl Tryd.ntmps24 Tryd.results24 rfl (by first | rfl | assumption) (Nat.le_of_ble_eq_true rfl) (by kernel_rfl) ?_
  simp only [push_cast, Nat.reduceAdd, Nat.reduceSub, Nat.reduceMul, Nat.reduceLT, Nat.reduceLeDiff, Nat.reduceEqDiff, Nat.reduceMod, Nat.reduceDiv, Int.reduceAdd, Int.reduceSub, Int.reduceMul, Int.reduceLT, Int.reduceLE, Int.reduceEq, Int.reduceNeg, Int.reduceToNat, reduceIte, reduceCtorEq]
  intro b1
  refine (digits_ok w).use trivial fun v1 N1 ho1 => ⟨ho1.wr.1, ho1.wr.2, fun hf1 => ?_⟩
  obtain ⟨bx, cx, rfl, hcx, -, rfl⟩ := ho1.pos (by decide)
  simp only [push_cast, Nat.reduceAdd, Nat.reduceSub, Nat.reduceMul, Nat.reduceLT, Nat.reduceLeDiff, Nat.reduceEqDiff, Nat.reduceMod, Nat.reduceDiv, Int.reduceAdd, Int.reduceSub, Int.reduceMul, Int.reduceLT, Int.reduceLE, Int.reduceEq, Int.reduceNeg, Int.reduceToNat, reduceIte, reduceCtorEq] at hf1
  obtain ⟨Ex, hEx⟩ : ∃ e : Ent, e = ⟨bx, 0, .vec 3 1 cx, zs (digs w.num 32)⟩ := ⟨_, rfl⟩
  have Exk : Ex.kind = .vec 3 1 cx := by rw [hEx]
  have Exb : Ex.blk = bx := by rw [hEx]
  have Exo : Ex.off = 0 := by rw [hEx]
  have Exl : Ex.cells.length = 32 := by rw [hEx]; show (zs _).length = 32; rw [zs_len, digs_len]
  have Exm : marksOf [Ex] = [] := by rw [hEx]; rfl
  rw [← hEx]
  simp only [push_cast, Nat.reduceAdd, Nat.reduceSub, Nat.reduceMul, Nat.reduceLT, Nat.reduceLeDiff, Nat.reduceEqDiff, Nat.reduceMod, Nat.reduceDiv, Int.reduceAdd, Int.reduceSub, Int.reduceMul, Int.reduceLT, Int.reduceLE, Int.reduceEq, Int.reduceNeg, Int.reduceToNat, reduceIte, reduceCtorEq, hf1, Exb, Exk]
  refine loopO (noG_ok _) (pl := Tryd.pl24) Tryd.mix (X := Nat)
    (fun s => ([(3, .slice (some ⟨bx, 0, none⟩) 32 cx), (4, .string (bs (hex2 ((wbytes w).drop (32 - s))))), (5, .int .i64 s)], [Ex]))
    (fun s => s ≤ 32) (fun s => 32 - s) 0 ?_ ?_ (by kernel_rfl) ?_
  · exact Nat.zero_le _
  · have e0 : hex2 ((wbytes w).drop 32) = [] := by rw [List.drop_eq_nil_of_le (by omega)]; rfl
    simp only [push_cast, Nat.reduceAdd, Nat.reduceSub, Nat.reduceMul, Nat.reduceLT, Nat.reduceLeDiff, Nat.reduceEqDiff, Nat.reduceMod, Nat.reduceDiv, Int.reduceAdd, Int.reduceSub, Int.reduceMul, Int.reduceLT, Int.reduceLE, Int.reduceEq, Int.reduceNeg, Int.reduceToNat, reduceIte, reduceCtorEq, hf1, Exb, Exk, Nat.sub_zero, e0]
    rfl
  · intro s hs
    dsimp only at hs ⊢
    have f0 : findE [Ex] bx = some Ex := by simp [findE, Exb]
    rcases Nat.lt_or_ge s 32 with hlt | hge
    · have c1 : (s : Int) < 32 := by omega
      have c2 : s ≤ 31 := by omega
      have hdl := digN_lt w.num s
      have hat : List.take 1 (List.drop s Ex.cells) = [.int .i64 ((digN w.num s : Nat) : Int)] := by
        rw [hEx]; exact digs_at _ hlt
      have hj : 31 - s < (wbytes w).length := by omega
      have hge : (wbytes w)[31 - s] = UInt8.ofNat (digN w.num s) := by
        have := wbytes_at w (j := 31 - s) (by omega)
        rw [List.getElem?_eq_getElem hj, show 31 - (31 - s) = s by omega] at this
        exact Option.some.inj this
      have hst := hex2_drop hj
      rw [hge, ofNat_dig, show 31 - s + 1 = 32 - s by omega] at hst
      obtain ⟨d, hd⟩ : ∃ d, d = digN w.num s := ⟨_, rfl⟩
      rw [← hd] at hdl hat hst
      obtain ⟨k1, e1⟩ : ∃ k, k = d / 16 := ⟨_, rfl⟩
      obtain ⟨k2, e2⟩ : ∃ k, k = d % 16 := ⟨_, rfl⟩
      obtain ⟨q1, f1⟩ : ∃ k, k = k1 + 1 := ⟨_, rfl⟩
      obtain ⟨q2, f2⟩ : ∃ k, k = k2 + 1 := ⟨_, rfl⟩
      rw [← e1, ← e2] at hst
      have t1 : (d : Int).tdiv 16 = (k1 : Int) := by rw [e1]; rfl
      have t2 : (d : Int).tmod 16 = (k2 : Int) := by rw [e2]; rfl
      have i1 : (k1 : Int) + 1 = (q1 : Int) := by omega
      have i2 : (k2 : Int) + 1 = (q2 : Int) := by omega
      have x1 : hexS.extract k1 q1 = bs [hexD k1] := by rw [f1]; exact hexS_cut k1 (by omega)
      have x2 : hexS.extract k2 q2 = bs [hexD k2] := by rw [f2]; exact hexS_cut k2 (by omega)
      have l1 : q1 ≤ 16 := by omega
      have l2 : q2 ≤ 16 := by omega
      have l3 : k1 ≤ q1 := by omega
      have l4 : k2 ≤ q2 := by omega
      have hl2 : (hex2 ((wbytes w).drop (32 - s))).length ≤ 64 := by rw [hex2_len, List.length_drop]; omega
      obtain ⟨S, hS⟩ : ∃ S, S = hex2 ((wbytes w).drop (32 - s)) := ⟨_, rfl⟩
      rw [← hS] at hst hl2
      have ca1 : catB (bs [hexD k1]) (bs [hexD k2]) = some (.string (bs [hexD k1, hexD k2])) := hcatB [hexD k1] [hexD k2] (by show 1 + 1 ≤ _; omega)
      have ca2 : catB (bs [hexD k1, hexD k2]) (bs S) = some (.string (bs (hexD k1 :: hexD k2 :: S))) := hcatB [hexD k1, hexD k2] S (by show 2 + _ ≤ _; omega)
      simp only [push_cast, Nat.reduceAdd, Nat.reduceSub, Nat.reduceMul, Nat.reduceLT, Nat.reduceLeDiff, Nat.reduceEqDiff, Nat.reduceMod, Nat.reduceDiv, Int.reduceAdd, Int.reduceSub, Int.reduceMul, Int.reduceLT, Int.reduceLE, Int.reduceEq, Int.reduceNeg, Int.reduceToNat, reduceIte, reduceCtorEq, f0, c1, c2, hat, Exk, Exo, Exl, Exb, ← hS, t1, t2, i1, i2, wrap_i64' (show -9223372036854775808 ≤ (q1 : Int) ∧ (q1 : Int) ≤ 9223372036854775807 by omega), wrap_i64' (show -9223372036854775808 ≤ (q2 : Int) ∧ (q2 : Int) ≤ 9223372036854775807 by omega), wrap_i64' (show -9223372036854775808 ≤ (k1 : Int) ∧ (k1 : Int) ≤ 9223372036854775807 by omega), wrap_i64' (show -9223372036854775808 ≤ (k2 : Int) ∧ (k2 : Int) ≤ 9223372036854775807 by omega), l1, l2, l3, l4, x1, x2, ca1, ca2, wrap_i64' (show -9223372036854775808 ≤ (s : Int) + 1 ∧ (s : Int) + 1 ≤ 9223372036854775807 by omega)]
      exact ⟨s + 1, by omega, by omega, by rw [show 32 - (s + 1) = 31 - s by omega, hst], rfl⟩
    · obtain rfl : s = 32 := by omega
      simp only [push_cast, Nat.reduceAdd, Nat.reduceSub, Nat.reduceMul, Nat.reduceLT, Nat.reduceLeDiff, Nat.reduceEqDiff, Nat.reduceMod, Nat.reduceDiv, Int.reduceAdd, Int.reduceSub, Int.reduceMul, Int.reduceLT, Int.reduceLE, Int.reduceEq, Int.reduceNeg, Int.reduceToNat, reduceIte, reduceCtorEq, f0, Nat.sub_self, List.drop_zero]
      refine loopO (noG_ok _) (pl := Tryd.pl24) Tryd.mix (X := List UInt8)
        (fun x => ([(4, .string (bs x))], []))
        (fun x => strip1 48 x = R ∧ x ≠ [] ∧ x.length ≤ 64) (fun x => x.length) (hex2 (wbytes w)) ?_ ?_ (by kernel_rfl) ?_
      · exact ⟨hR.symm, (fun h => by rw [h] at hlen; cases hlen), by omega⟩
      · simp only [push_cast, Nat.reduceAdd, Nat.reduceSub, Nat.reduceMul, Nat.reduceLT, Nat.reduceLeDiff, Nat.reduceEqDiff, Nat.reduceMod, Nat.reduceDiv, Int.reduceAdd, Int.reduceSub, Int.reduceMul, Int.reduceLT, Int.reduceLE, Int.reduceEq, Int.reduceNeg, Int.reduceToNat, reduceIte, reduceCtorEq, Exk]
      · rintro x ⟨hx, hne, hxl⟩
        dsimp only at hx ⊢
        have fin : ∀ (z : List UInt8), z = R → z.length ≤ 64 → catB (bs [48, 120]) (bs z) = some (.string (bs (hexW w))) := fun z hz hzl => by
          rw [hH, ← hz]; exact hcatB [48, 120] z (by show 2 + _ ≤ _; omega)
        match x, hx, hne, hxl with
        | [y], hx, _, hxl =>
          have hx' : [y] = R := hx
          have ca := fin [y] hx' hxl
          have l1 : ([y] : List UInt8).length = 1 := rfl
          simp only [push_cast, Nat.reduceAdd, Nat.reduceSub, Nat.reduceMul, Nat.reduceLT, Nat.reduceLeDiff, Nat.reduceEqDiff, Nat.reduceMod, Nat.reduceDiv, Int.reduceAdd, Int.reduceSub, Int.reduceMul, Int.reduceLT, Int.reduceLE, Int.reduceEq, Int.reduceNeg, Int.reduceToNat, reduceIte, reduceCtorEq, oxS, bs_mk, l1, ca]
          done
        | y :: y2 :: r, hx, _, hxl =>
          obtain ⟨z, hz⟩ : ∃ z, z = y :: y2 :: r := ⟨_, rfl⟩
          have zl : z.length = r.length + 1 + 1 := by rw [hz]; rfl
          rw [← hz] at hx hxl ⊢
          have c1 : (1 : Int) < (z.length : Int) := by omega
          have c2 : (0 : Int) < (z.length : Int) := by omega
          have c3 : (1 : Int) ≤ (z.length : Int) := by omega
          have b0 : (bs z).data[0]? = some y := by rw [hbs_idx (by omega)]; subst hz; rfl
          have dr : List.take (z.length - 1) (List.drop 1 z) = y2 :: r := by rw [hz]; exact List.take_of_length_le (by show r.length + 1 ≤ _; show r.length + 1 ≤ r.length + 1 + 1 - 1; omega)
          by_cases hy : y = 48
          · have e : ((y.toNat : Int) == 48) = true := by rw [hy]; rfl
            have hx' : strip1 48 (y2 :: r) = R := by rw [← hx, hz, strip1, if_pos hy]
            simp only [push_cast, Nat.reduceAdd, Nat.reduceSub, Nat.reduceMul, Nat.reduceLT, Nat.reduceLeDiff, Nat.reduceEqDiff, Nat.reduceMod, Nat.reduceDiv, Int.reduceAdd, Int.reduceSub, Int.reduceMul, Int.reduceLT, Int.reduceLE, Int.reduceEq, Int.reduceNeg, Int.reduceToNat, reduceIte, reduceCtorEq, c1, c2, c3, b0, e, dr]
            exact ⟨y2 :: r, ⟨hx', by simp, by show r.length + 1 ≤ 64; omega⟩, by show r.length + 1 < _; omega, rfl⟩
          · have e : ((y.toNat : Int) == 48) = false := beq_eq_false_iff_ne.2 fun h => hy (UInt8.toNat_inj.1 (show y.toNat = 48 by omega))
            have hx' : z = R := by rw [← hx, hz, strip1, if_neg hy]
            have ca := fin z hx' hxl
            simp only [push_cast, Nat.reduceAdd, Nat.reduceSub, Nat.reduceMul, Nat.reduceLT, Nat.reduceLeDiff, Nat.reduceEqDiff, Nat.reduceMod, Nat.reduceDiv, Int.reduceAdd, Int.reduceSub, Int.reduceMul, Int.reduceLT, Int.reduceLE, Int.reduceEq, Int.reduceNeg, Int.reduceToNat, reduceIte, reduceCtorEq, oxS, bs_mk, c1, c2, c3, b0, e, ca]
            done
theorem refHexG (args : List Value) (v : Value) (h : hexG args = some v) : CallsV Tryd.prog 24 args [] (Ret0 v) := by
  unfold hexG at h
  split at h
  · rename_i x
    cases hx : wOf x with
    | none => simp [hx] at h
    | some a =>
      simp only [hx, Option.bind_some, Option.some.injEq] at h
      rw [wOf_some hx, ← h]
      exact refHex a
  · cases h
theorem refDigit (c : UInt8) (b : Nat) (hb : b = 10 ∨ b = 16) : CallsV Tryd.prog 50 [.int .u8 (c.toNat : Nat), .int .i64 b] [] (Ret0 (.int .i64 (digI b c))) := by
  have hx := c.toNat_lt
  have hdv : digI b c = if 48 ≤ c.toNat ∧ c.toNat ≤ 57 then ((c.toNat - 48 : Nat) : Int) else if b = 16 ∧ 97 ≤ c.toNat ∧ c.toNat ≤ 102 then ((c.toNat - 87 : Nat) : Int) else -1 := by
    unfold digI digV
    by_cases h1 : 48 ≤ c.toNat ∧ c.toNat ≤ 57
    · rw [if_pos h1, if_pos h1]
    · by_cases h2 : b = 16 ∧ 97 ≤ c.toNat ∧ c.toNat ≤ 102
      · rw [if_neg h1, if_pos h2, if_neg h1, if_pos h2]
      · rw [if_neg h1, if_neg h2, if_neg h1, if_neg h2]
  obtain ⟨D, hD⟩ : ∃ D, D = digI b c := ⟨_, rfl⟩
  rw [← hD] at hdv ⊢
  generalize c.toNat = x at *
  refine callsO (noG_ok _) Tryd.mix Tryd.pl50 Tryd.func50 rfl Tryd.ntmps50 Tryd.results50 rfl (by first | rfl | assumption) (Nat.le_of_ble_eq_true rfl) (by kernel_rfl) ?_
  by_cases h1 : 48 ≤ x
  · have i1 : (48 : Int) ≤ (x : Int) := by omega
    by_cases h2 : x ≤ 57
    · have i2 : (x : Int) ≤ 57 := by omega
      have i3 : ¬ (97 : Int) ≤ (x : Int) := by omega
      have e : D = (x : Int) - 48 := by rw [hdv, if_pos ⟨h1, h2⟩]; omega
      simp only [push_cast, Nat.reduceAdd, Nat.reduceSub, Nat.reduceMul, Nat.reduceLT, Nat.reduceLeDiff, Nat.reduceEqDiff, Nat.reduceMod, Nat.reduceDiv, Int.reduceAdd, Int.reduceSub, Int.reduceMul, Int.reduceLT, Int.reduceLE, Int.reduceEq, Int.reduceNeg, Int.reduceToNat, reduceIte, reduceCtorEq, i1, i2, i3, wrap_u8' (n := (x : Int) - 48) (by omega), wrap_i64' (show -9223372036854775808 ≤ (x : Int) - 48 ∧ (x : Int) - 48 ≤ 9223372036854775807 by omega), e]
      done
    · have i2 : ¬ (x : Int) ≤ 57 := by omega
      by_cases h3 : 97 ≤ x ∧ x ≤ 102
      · have i3 : (97 : Int) ≤ (x : Int) := by omega
        have i4 : (x : Int) ≤ 102 := by omega
        rcases hb with rfl | rfl
        · have e : D = -1 := by rw [hdv, if_neg (by omega), if_neg (by omega)]
          have b1 : ((10 : Int) == 16) = false := rfl
          simp only [push_cast, Nat.reduceAdd, Nat.reduceSub, Nat.reduceMul, Nat.reduceLT, Nat.reduceLeDiff, Nat.reduceEqDiff, Nat.reduceMod, Nat.reduceDiv, Int.reduceAdd, Int.reduceSub, Int.reduceMul, Int.reduceLT, Int.reduceLE, Int.reduceEq, Int.reduceNeg, Int.reduceToNat, reduceIte, reduceCtorEq, i1, i2, i3, i4, e, b1]
          done
        · have e : D = (x : Int) - 97 + 10 := by rw [hdv, if_neg (by omega), if_pos (by omega)]; omega
          have b1 : ((16 : Int) == 16) = true := rfl
          simp only [push_cast, Nat.reduceAdd, Nat.reduceSub, Nat.reduceMul, Nat.reduceLT, Nat.reduceLeDiff, Nat.reduceEqDiff, Nat.reduceMod, Nat.reduceDiv, Int.reduceAdd, Int.reduceSub, Int.reduceMul, Int.reduceLT, Int.reduceLE, Int.reduceEq, Int.reduceNeg, Int.reduceToNat, reduceIte, reduceCtorEq, i1, i2, i3, i4, b1, wrap_u8' (n := (x : Int) - 97) (by omega), wrap_i64' (show -9223372036854775808 ≤ (x : Int) - 97 ∧ (x : Int) - 97 ≤ 9223372036854775807 by omega), wrap_i64' (show -9223372036854775808 ≤ (x : Int) - 97 + 10 ∧ (x : Int) - 97 + 10 ≤ 9223372036854775807 by omega), e]
          done
      · have e : D = -1 := by rw [hdv, if_neg (by omega), if_neg (by omega)]
        by_cases h4 : 97 ≤ x
        · have i3 : (97 : Int) ≤ (x : Int) := by omega
          have i4 : ¬ (x : Int) ≤ 102 := by omega
          simp only [push_cast, Nat.reduceAdd, Nat.reduceSub, Nat.reduceMul, Nat.reduceLT, Nat.reduceLeDiff, Nat.reduceEqDiff, Nat.reduceMod, Nat.reduceDiv, Int.reduceAdd, Int.reduceSub, Int.reduceMul, Int.reduceLT, Int.reduceLE, Int.reduceEq, Int.reduceNeg, Int.reduceToNat, reduceIte, reduceCtorEq, i1, i2, i3, i4, e]
          done
        · have i3 : ¬ (97 : Int) ≤ (x : Int) := by omega
          simp only [push_cast, Nat.reduceAdd, Nat.reduceSub, Nat.reduceMul, Nat.reduceLT, Nat.reduceLeDiff, Nat.reduceEqDiff, Nat.reduceMod, Nat.reduceDiv, Int.reduceAdd, Int.reduceSub, Int.reduceMul, Int.reduceLT, Int.reduceLE, Int.reduceEq, Int.reduceNeg, Int.reduceToNat, reduceIte, reduceCtorEq, i1, i2, i3, e]
          done
  · have i1 : ¬ (48 : Int) ≤ (x : Int) := by omega
    have i3 : ¬ (97 : Int) ≤ (x : Int) := by omega
    have e : D = -1 := by rw [hdv, if_neg (by omega), if_neg (by omega)]
    simp only [push_cast, Nat.reduceAdd, Nat.reduceSub, Nat.reduceMul, Nat.reduceLT, Nat.reduceLeDiff, Nat.reduceEqDiff, Nat.reduceMod, Nat.reduceDiv, Int.reduceAdd, Int.reduceSub, Int.reduceMul, Int.reduceLT, Int.reduceLE, Int.reduceEq, Int.reduceNeg, Int.reduceToNat, reduceIte, reduceCtorEq, i1, i3, e]
    done
end Go.Proofs.YtndioekjgmbomaaDoor
