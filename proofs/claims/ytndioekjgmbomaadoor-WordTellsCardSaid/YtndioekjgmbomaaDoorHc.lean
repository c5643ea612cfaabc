/- Hc: the program's word.Hex. -/
import Derived.Test.YtndioekjgmbomaaDoorHb
import Derived.Test.YtndioekjgmbomaaDoorSg
set_option linter.unusedSimpArgs false
set_option linter.unusedVariables false
namespace Go.Ev
def hexS : ByteArray := { data := #[48, 49, 50, 51, 52, 53, 54, 55, 56, 57, 97, 98, 99, 100, 101, 102] }
theorem hexS_at : ∀ k < 16, hexS.data[k]? = some (hexD k) := by decide
theorem hexS_size : hexS.size = 16 := rfl
theorem hexS_mk : ({ data := #[48, 49, 50, 51, 52, 53, 54, 55, 56, 57, 97, 98, 99, 100, 101, 102] } : ByteArray) = hexS := rfl
attribute [push_cast] hexS_mk hexS_size
theorem hex2_take {l : List UInt8} {k : Nat} (h : k < l.length) : hex2 (l.take (k + 1)) = hex2 (l.take k) ++ [hexD ((l[k]).toNat / 16)] ++ [hexD ((l[k]).toNat % 16)] := by
  rw [List.take_succ_eq_append_getElem h, hex2_app, List.append_assoc]; rfl
noncomputable def hexG : List Value → Option Value
  | [x] => (wOf x).bind fun a => some (.string (bs (hexW a)))
  | _ => none
attribute [push_cast] hexG
theorem and15 : ∀ x < 256, bitsI .and .u8 ((x : Nat) : Int) 15 = ((x % 16 : Nat) : Int) := by decide +kernel
theorem shr4 (x : UInt8) : shrI .u8 (x.toNat : Int) 4 = ((x.toNat / 16 : Nat) : Int) := by
  unfold shrI
  rw [show min (Int.toNat 4) IntKind.u8.bits = 4 from rfl, Int.fdiv_eq_ediv_of_nonneg _ (by decide)]
  rfl
theorem hcatB (x y : List UInt8) (h : x.length + y.length ≤ 9223372036854775807) : catB (bs x) (bs y) = some (.string (bs (x ++ y))) := by
  unfold catB
  rw [bs_size, bs_size, bs_append, if_neg]
  show ¬ ((x.length + y.length : Nat) : Int) > (9223372036854775807 : Int)
  omega
theorem oneB48 : oneB (bs [48]) = true := by rw [oneB_eq]; exact decide_eq_true rfl
attribute [push_cast] oneB48
end Go.Ev
namespace Go.Proofs.YtndioekjgmbomaaDoor
open Go Go.Ev Go.Proofs
set_option maxRecDepth 100000
set_option maxHeartbeats 4000000
theorem wordHex (w : W) : CallsV Tryd.prog 23 [w.v] [] (Ret0 (.string (bs (hexW w)))) := by
  have hlen : (hex2 (wbytes w)).length = 64 := by rw [hex2_len, wbytes_len]
  refine callsO gHe_ok Tryd.mix Tryd.pl23 Tryd.func23 rfl Tryd.ntmps23 Tryd.results23 rfl (by first | rfl | assumption) (Nat.le_of_ble_eq_true rfl) (by kernel_rfl) ?_
  simp only [push_cast, Nat.reduceAdd, Nat.reduceSub, Nat.reduceMul, Nat.reduceLT, Nat.reduceLeDiff, Nat.reduceEqDiff, Nat.reduceMod, Nat.reduceDiv, Int.reduceAdd, Int.reduceSub, Int.reduceMul, Int.reduceLT, Int.reduceLE, Int.reduceEq, Int.reduceNeg, Int.reduceToNat, reduceIte, reduceCtorEq]
  intro b1 b3 hb3
  simp only [push_cast, Nat.reduceAdd, Nat.reduceSub, Nat.reduceMul, Nat.reduceLT, Nat.reduceLeDiff, Nat.reduceEqDiff, Nat.reduceMod, Nat.reduceDiv, Int.reduceAdd, Int.reduceSub, Int.reduceMul, Int.reduceLT, Int.reduceLE, Int.reduceEq, Int.reduceNeg, Int.reduceToNat, reduceIte, reduceCtorEq, hb3]
  refine (octets_ok w).use trivial ?_
  rintro r N ⟨b2, rfl, rfl⟩
  refine ⟨⟨trivial, trivial⟩, rfl, fun hf => ?_⟩
  simp only [push_cast, Nat.reduceAdd, Nat.reduceSub, Nat.reduceMul, Nat.reduceLT, Nat.reduceLeDiff, Nat.reduceEqDiff, Nat.reduceMod, Nat.reduceDiv, Int.reduceAdd, Int.reduceSub, Int.reduceMul, Int.reduceLT, Int.reduceLE, Int.reduceEq, Int.reduceNeg, Int.reduceToNat, reduceIte, reduceCtorEq] at hf
  simp only [push_cast, Nat.reduceAdd, Nat.reduceSub, Nat.reduceMul, Nat.reduceLT, Nat.reduceLeDiff, Nat.reduceEqDiff, Nat.reduceMod, Nat.reduceDiv, Int.reduceAdd, Int.reduceSub, Int.reduceMul, Int.reduceLT, Int.reduceLE, Int.reduceEq, Int.reduceNeg, Int.reduceToNat, reduceIte, reduceCtorEq, hf, hb3]
  refine rangeO gHe_ok (pl := Tryd.pl23) Tryd.mix (Hc := [⟨b2, 0, .cel 24, w.cells⟩]) (Hm := [])
    (octIter (w := w) (b1 := b2) (k1 := .cel 24) rfl (by simp [findE])) rfl
    (X := BldX) (bldH b3)
    (fun k s => (s.1.1 = .pointer none ∨ s.1.1 = .pointer (some ⟨b3, 0, none⟩)) ∧ OutC 5 1 (byteV (hex2 ((wbytes w).take k))) (hex2 ((wbytes w).take k)).length s.1.2.1 s.1.2.2 ∧ freshN s.1.2.2 [⟨b3, 0, .cel 61, [s.1.1, s.1.2.1]⟩]) (fun _ _ => False) ⟨(.pointer none, .slice none 0 0, []), trivial, rfl⟩
    ?_ ?_ ?_ ?_ (by simp) (fun s => bldH_marks b3 s) (fun s u e he => .inl (bldH_wr b3 u e he)) ?_ (by kernel_rfl) (by kernel_rfl) (fun _ _ h => h.elim) ?_ ?_ (fun _ _ _ _ h => h.elim)
  · exact ⟨.inl rfl, .nil _ _, trivial⟩
  · simp only [push_cast, Nat.reduceAdd, Nat.reduceSub, Nat.reduceMul, Nat.reduceLT, Nat.reduceLeDiff, Nat.reduceEqDiff, Nat.reduceMod, Nat.reduceDiv, Int.reduceAdd, Int.reduceSub, Int.reduceMul, Int.reduceLT, Int.reduceLE, Int.reduceEq, Int.reduceNeg, Int.reduceToNat, reduceIte, reduceCtorEq, bldH, hf, hb3]
  · rfl
  · rfl
  · intro args ha
    obtain ⟨z, _, rfl⟩ := List.mem_map.1 ha
    rfl
  · rintro lo k s args hk hs
    obtain ⟨x, hj, rfl⟩ := Option.map_eq_some_iff.1 ((List.getElem?_map ..).symm.trans hk)
    obtain ⟨hk1, rfl⟩ := List.getElem?_eq_some_iff.1 hj
    obtain ⟨hp, ho, hf⟩ := hs
    have hmk := bldH_marks b3 s
    have hst := hex2_take hk1
    have hl1 : (hex2 ((wbytes w).take k)).length ≤ 64 := by rw [hex2_len, List.length_take]; rw [wbytes_len]; omega
    have hx := ((wbytes w)[k]).toNat_lt
    have hs4 := shr4 (wbytes w)[k]
    have ha4 := and15 _ hx
    obtain ⟨x, hxx⟩ : ∃ x, x = (wbytes w)[k] := ⟨_, rfl⟩
    rw [← hxx] at hx hst hs4 ha4
    obtain ⟨k1, e1⟩ : ∃ k1, k1 = x.toNat / 16 := ⟨_, rfl⟩
    obtain ⟨k2, e2⟩ : ∃ k1, k1 = x.toNat % 16 := ⟨_, rfl⟩
    rw [← e1] at hst hs4
    rw [← e2] at hst ha4
    have l1 : (k1 : Int) < 16 := by omega
    have l2 : (k2 : Int) < 16 := by omega
    have g1 := hexS_at k1 (by omega)
    have g2 := hexS_at k2 (by omega)
    generalize hRK : (roundK _ _ _ k : Exit → Tm → Hp → Prop) = RK
    show oC _ _ _ _ _ _ _ (parT 23 _ _ [Value.int .u8 ((wbytes w)[k].toNat : Nat)]) _
    rw [← hxx]
    simp only [push_cast, Nat.reduceAdd, Nat.reduceSub, Nat.reduceMul, Nat.reduceLT, Nat.reduceLeDiff, Nat.reduceEqDiff, Nat.reduceMod, Nat.reduceDiv, Int.reduceAdd, Int.reduceSub, Int.reduceMul, Int.reduceLT, Int.reduceLE, Int.reduceEq, Int.reduceNeg, Int.reduceToNat, reduceIte, reduceCtorEq, hmk, hs4, l1, l2, g1, g2]
    have wr1 : ∀ (v : Value) (H' : Hp) (l0 : List UInt8), (v = .nilIface ∧ ∃ v' N', OutC 5 1 (byteV l0) l0.length v' N' ∧ freshN N' [⟨b3, 0, .cel 61, [.pointer (some ⟨b3, 0, none⟩), v']⟩] ∧ H' = N' ++ [⟨b3, 0, .cel 61, [.pointer (some ⟨b3, 0, none⟩), v']⟩]) → ∀ (M : Hp), ∀ e ∈ H', e.wr ∨ e ∈ M := by
      rintro v H' l0 ⟨rfl, v', N', ho', hf', rfl⟩ M e he
      rcases List.mem_append.1 he with h | h
      · exact .inl (allWr_mem ho'.wr.1 e h)
      · rw [List.mem_singleton.1 h]; exact .inl trivial
    refine CallsV.frame (A := []) (writeByte_ok b3 s.1.1 s.1.2.1 hp _ _ ho hf (hexD k1) (by omega)) (fun v H' h => wr1 v H' _ h _) ?_
    rintro v H' ⟨rfl, v', N', ho', hf', rfl⟩
    have hmk' : marksOf (N' ++ [⟨b3, 0, .cel 61, [.pointer (some ⟨b3, 0, none⟩), v']⟩]) = [] := by rw [marks_append, ho'.wr.2]; rfl
    simp only [push_cast, Nat.reduceAdd, Nat.reduceSub, Nat.reduceMul, Nat.reduceLT, Nat.reduceLeDiff, Nat.reduceEqDiff, Nat.reduceMod, Nat.reduceDiv, Int.reduceAdd, Int.reduceSub, Int.reduceMul, Int.reduceLT, Int.reduceLE, Int.reduceEq, Int.reduceNeg, Int.reduceToNat, reduceIte, reduceCtorEq, l1, l2, g1, g2, hmk', ha4]
    refine CallsV.frame (A := []) (writeByte_ok b3 _ _ (.inr rfl) _ _ ho' hf' (hexD k2) (by rw [List.length_append]; show _ + 1 + 1 ≤ _; omega)) (fun v H' h => wr1 v H' _ h _) ?_
    rintro v H' ⟨rfl, v'', N'', ho'', hf'', rfl⟩
    simp only [push_cast, Nat.reduceAdd, Nat.reduceSub, Nat.reduceMul, Nat.reduceLT, Nat.reduceLeDiff, Nat.reduceEqDiff, Nat.reduceMod, Nat.reduceDiv, Int.reduceAdd, Int.reduceSub, Int.reduceMul, Int.reduceLT, Int.reduceLE, Int.reduceEq, Int.reduceNeg, Int.reduceToNat, reduceIte, reduceCtorEq]
    rw [← hRK]
    refine ⟨⟨(.pointer (some ⟨b3, 0, none⟩), v'', N''), ho''.wr⟩, ⟨.inr rfl, ?_, hf''⟩, subH_self _⟩
    dsimp only
    rw [hst]
    exact ho''
  · rintro D s hfD hs
    obtain ⟨hp, ho, hf⟩ := hs
    have hmk := bldH_marks b3 s
    have hvl : (byteArgs (wbytes w)).length = (wbytes w).length := by unfold byteArgs; rw [List.length_map]
    rw [hvl, List.take_length] at ho
    simp only [push_cast, Nat.reduceAdd, Nat.reduceSub, Nat.reduceMul, Nat.reduceLT, Nat.reduceLeDiff, Nat.reduceEqDiff, Nat.reduceMod, Nat.reduceDiv, Int.reduceAdd, Int.reduceSub, Int.reduceMul, Int.reduceLT, Int.reduceLE, Int.reduceEq, Int.reduceNeg, Int.reduceToNat, reduceIte, reduceCtorEq]
    refine CallsV.frame (A := [⟨D, 0, .obj (.deferred (some [])), []⟩]) (string_ok b3 s.1.1 s.1.2.1 (hex2 (wbytes w)) (by omega) _ ho hf) ?_ ?_
    · rintro v H' ⟨rfl, rfl⟩ e he
      cases he
    · rintro v H' ⟨rfl, rfl⟩
      obtain ⟨S, hS⟩ : ∃ S, S = strip 48 (hex2 (wbytes w)) := ⟨_, rfl⟩
      have hSl : S.length ≤ 64 := by rw [hS, ← hlen]; exact strip_le _ _
      have hH := hexW_eq w
      rw [← hS] at hH
      have c1 : catB (bs [48, 120]) (bs S) = some (.string (bs ([48, 120] ++ S))) := hcatB [48, 120] S (by show 2 + _ ≤ _; omega)
      have e1 : (bs []).toList = [] := bs_toList []
      by_cases hz : S = []
      · have e2 : (S == []) = true := by rw [hz]; rfl
        have c2 : catB (bs [48, 120]) (bs [48]) = some (.string (bs ([48, 120] ++ [48]))) := hcatB [48, 120] [48] (by decide)
        rw [if_pos hz] at hH
        simp only [push_cast, Nat.reduceAdd, Nat.reduceSub, Nat.reduceMul, Nat.reduceLT, Nat.reduceLeDiff, Nat.reduceEqDiff, Nat.reduceMod, Nat.reduceDiv, Int.reduceAdd, Int.reduceSub, Int.reduceMul, Int.reduceLT, Int.reduceLE, Int.reduceEq, Int.reduceNeg, Int.reduceToNat, reduceIte, reduceCtorEq, bs_mk, ← hS, e1, e2, c1, c2, hH]
        done
      · have e2 : (S == []) = false := by cases hS' : S with
          | nil => exact absurd hS' hz
          | cons a b => rfl
        rw [if_neg hz] at hH
        simp only [push_cast, Nat.reduceAdd, Nat.reduceSub, Nat.reduceMul, Nat.reduceLT, Nat.reduceLeDiff, Nat.reduceEqDiff, Nat.reduceMod, Nat.reduceDiv, Int.reduceAdd, Int.reduceSub, Int.reduceMul, Int.reduceLT, Int.reduceLE, Int.reduceEq, Int.reduceNeg, Int.reduceToNat, reduceIte, reduceCtorEq, bs_mk, ← hS, e1, e2, c1, hH]
        done
theorem hexG_ok (args : List Value) (v : Value) (h : hexG args = some v) : CallsV Tryd.prog 23 args [] (Ret0 v) := by
  unfold hexG at h
  split at h
  · rename_i x
    cases hx : wOf x with
    | none => simp [hx] at h
    | some a =>
      simp only [hx, Option.bind_some, Option.some.injEq] at h
      rw [wOf_some hx, ← h]
      exact wordHex a
  · cases h
end Go.Proofs.YtndioekjgmbomaaDoor
