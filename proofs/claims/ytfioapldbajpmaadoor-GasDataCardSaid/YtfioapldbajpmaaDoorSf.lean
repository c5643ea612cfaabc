/- Sf: slices.AppendSeq, Collect of bytes; a word's bytes. -/
import Derived.Test.YtfioapldbajpmaaDoorSb
import Derived.Test.YtfioapldbajpmaaDoorWe
set_option linter.unusedSimpArgs false
set_option linter.unusedVariables false
namespace Go.Ev
theorem updE_left {N Y : Hp} {b : Nat} {e : Ent} (h : freshN N Y) (hf : findE Y b = some e) (cs : List Value) : updE (N ++ Y) b cs = N ++ updE Y b cs := by
  have hm : e ∈ Y ∧ e.blk = b := findE_mem hf
  induction N with
  | nil => rfl
  | cons x r ih =>
    have : ¬ b = x.blk := by
      intro h0
      exact fresh_ne h.1 e hm.1 (hm.2.trans h0)
    simp only [List.cons_append, updE, if_neg this]
    rw [ih h.2]
/-- bytes, as an iterator hands them over -/
def byteArgs (l : List UInt8) : List (List Value) := l.map fun x => [.int .u8 (x.toNat : Nat)]
theorem byteV_take (l : List UInt8) {i : Nat} (h : i < l.length) : byteV (l.take (i + 1)) = byteV (l.take i) ++ [.int .u8 (l[i].toNat : Nat)] := by
  unfold byteV
  rw [List.take_succ_eq_append_getElem h, List.map_append]; rfl
abbrev SeqX := { s : Value × Hp // allWr s.2 ∧ marksOf s.2 = [] }
/-- a word's bytes, the highest one first -/
noncomputable def wbytes : W → List UInt8 := hid fun w => (List.range 32).map fun j => UInt8.ofNat (digN w.num (31 - j))
theorem wbytes_eq (w : W) : wbytes w = (List.range 32).map fun j => UInt8.ofNat (digN w.num (31 - j)) := by unfold wbytes; rw [hid_eq]
theorem wbytes_len (w : W) : (wbytes w).length = 32 := by rw [wbytes_eq, List.length_map, List.length_range]
theorem wbytes_at (w : W) {j : Nat} (h : j < 32) : (wbytes w)[j]? = some (UInt8.ofNat (digN w.num (31 - j))) := by
  rw [wbytes_eq, List.getElem?_map, List.getElem?_range h]; rfl
theorem ofNat_dig (n j : Nat) : (UInt8.ofNat (digN n j)).toNat = digN n j := by
  have := digN_lt n j
  simp [Nat.mod_eq_of_lt this]
theorem octet {x r : Nat} (hx : x < 18446744073709551616) (hr : r < 8) : IntKind.u8.wrap (shrI .u64 (x : Int) ((r : Int) * 8)) = ((x / 256 ^ r % 256 : Nat) : Int) := by
  unfold shrI
  rw [show ((r : Int) * 8).toNat = 8 * r by omega, show min (8 * r) IntKind.u64.bits = 8 * r by show min (8 * r) 64 = 8 * r; omega, Int.fdiv_eq_ediv_of_nonneg _ (Int.pow_nonneg (by decide)), IntKind.wrap_u8]
  rw [show (2 : Int) ^ (8 * r) = ((256 ^ r : Nat) : Int) by rw [Int.natCast_pow, Int.pow_mul]; rfl]
  rw [Int.natCast_emod, Int.natCast_ediv]; rfl
end Go.Ev
namespace Go.Proofs.YtfioapldbajpmaaDoor
open Go Go.Ev Go.Proofs
set_option maxRecDepth 100000
set_option maxHeartbeats 4000000
def seqH (b : Nat) (s : SeqX) : Hp := s.1.2 ++ [⟨b, 0, .cel 73, [s.1.1]⟩]
theorem seqH_wr (b : Nat) (s : SeqX) : ∀ e ∈ seqH b s, e.wr := fun e he => by
  rcases List.mem_append.1 he with h | h
  · exact allWr_mem s.2.1 e h
  · rw [List.mem_singleton.1 h]; trivial
theorem seqH_marks (b : Nat) (s : SeqX) : marksOf (seqH b s) = [] := by unfold seqH; rw [marks_append, s.2.2]; rfl
theorem appendSeq_ok {gf : FuncId} {caps : List Value} {Hc : Hp} {l : List UInt8} (hit : IterV Tryd.prog gf caps Hc (byteArgs l)) (hmc : marksOf Hc = []) (hl : l.length ≤ 1099511627776) :
    CallsV Tryd.prog 74 [.slice none 0 0, .func (.func gf) #[] caps.toArray] Hc (OutC 5 1 (byteV l) l.length) := by
  refine callsO (noG_ok _) Tryd.mix Tryd.pl74 Tryd.func74 rfl Tryd.ntmps74 Tryd.results74 rfl (by first | rfl | assumption) (Nat.le_of_ble_eq_true rfl) (by kernel_rfl) ?_
  simp only [push_cast, Nat.reduceAdd, Nat.reduceSub, Nat.reduceMul, Nat.reduceLT, Nat.reduceLeDiff, Nat.reduceEqDiff, Nat.reduceMod, Nat.reduceDiv, Int.reduceAdd, Int.reduceSub, Int.reduceMul, Int.reduceLT, Int.reduceLE, Int.reduceEq, Int.reduceNeg, Int.reduceToNat, reduceIte, reduceCtorEq, Int.reduceBEq, Int.reduceBNe, Bool.true_beq, Bool.false_beq, Bool.true_bne, Bool.false_bne, Bool.not_true, Bool.not_false]
  intro b2 hb2
  refine rangeO (noG_ok _) (pl := Tryd.pl74) Tryd.mix (Hc := Hc) (Hm := []) hit rfl
    (X := SeqX) (seqH b2)
    (fun k s => OutC 5 1 (byteV (l.take k)) k s.1.1 s.1.2 ∧ freshN s.1.2 [⟨b2, 0, .cel 73, [s.1.1]⟩]) (fun _ _ => False) ⟨(.slice none 0 0, []), trivial, rfl⟩
    ?_ ?_ ?_ ?_ (by simp) (fun s => seqH_marks b2 s) (fun s u e he => .inl (seqH_wr b2 u e he)) ?_ (by kernel_rfl) (by kernel_rfl) (fun _ _ h => h.elim) ?_ ?_ (fun _ _ _ _ h => h.elim)
  · exact ⟨.nil _ _, trivial⟩
  · exact subH_rot hb2
  · show marksOf (_ :: Hc) = _
    simp [marksOf, hmc]
  · exact hmc
  · intro args ha
    obtain ⟨z, _, rfl⟩ := List.mem_map.1 ha
    rfl
  · rintro lo k s args hk hs
    obtain ⟨x, hj, rfl⟩ := Option.map_eq_some_iff.1 ((List.getElem?_map ..).symm.trans hk)
    obtain ⟨hk1, rfl⟩ := List.getElem?_eq_some_iff.1 hj
    obtain ⟨ho, hf⟩ := hs
    obtain ⟨⟨v, N⟩, hN⟩ := s
    dsimp only at ho hf
    have hmk := seqH_marks b2 ⟨(v, N), hN⟩
    obtain ⟨pa, ca, rfl⟩ := ho.slice
    have fb : findE (N ++ [⟨b2, 0, .cel 73, [.slice pa k ca]⟩]) b2 = some ⟨b2, 0, .cel 73, [.slice pa k ca]⟩ := by
      rw [findE_freshN hf (b := b2) (e := ⟨b2, 0, .cel 73, [.slice pa k ca]⟩) (by simp only [push_cast, Nat.reduceAdd, Nat.reduceSub, Nat.reduceMul, Nat.reduceLT, Nat.reduceLeDiff, Nat.reduceEqDiff, Nat.reduceMod, Nat.reduceDiv, Int.reduceAdd, Int.reduceSub, Int.reduceMul, Int.reduceLT, Int.reduceLE, Int.reduceEq, Int.reduceNeg, Int.reduceToNat, reduceIte, reduceCtorEq, Int.reduceBEq, Int.reduceBNe, Bool.true_beq, Bool.false_beq, Bool.true_bne, Bool.false_bne, Bool.not_true, Bool.not_false])]; simp only [push_cast, Nat.reduceAdd, Nat.reduceSub, Nat.reduceMul, Nat.reduceLT, Nat.reduceLeDiff, Nat.reduceEqDiff, Nat.reduceMod, Nat.reduceDiv, Int.reduceAdd, Int.reduceSub, Int.reduceMul, Int.reduceLT, Int.reduceLE, Int.reduceEq, Int.reduceNeg, Int.reduceToNat, reduceIte, reduceCtorEq, Int.reduceBEq, Int.reduceBNe, Bool.true_beq, Bool.false_beq, Bool.true_bne, Bool.false_bne, Bool.not_true, Bool.not_false]
    generalize hRK : (roundK _ _ _ k : Exit → Tm → Hp → Prop) = RK
    show oC _ _ _ _ _ _ _ (parT 13 _ _ [Value.int .u8 (l[k].toNat : Nat)]) _
    unfold seqH at hmk ⊢
    dsimp only at hmk ⊢
    simp only [push_cast, Nat.reduceAdd, Nat.reduceSub, Nat.reduceMul, Nat.reduceLT, Nat.reduceLeDiff, Nat.reduceEqDiff, Nat.reduceMod, Nat.reduceDiv, Int.reduceAdd, Int.reduceSub, Int.reduceMul, Int.reduceLT, Int.reduceLE, Int.reduceEq, Int.reduceNeg, Int.reduceToNat, reduceIte, reduceCtorEq, Int.reduceBEq, Int.reduceBNe, Bool.true_beq, Bool.false_beq, Bool.true_bne, Bool.false_bne, Bool.not_true, Bool.not_false, hmk, fb]
    intro b10 hb10
    refine append_out1 (e := 5) (sz := 1) (by_ := 1) (n := k) (m := 1) (ys := [.int .u8 (l[k].toNat : Nat)]) ho hb10 (by simp only [push_cast, Nat.reduceAdd, Nat.reduceSub, Nat.reduceMul, Nat.reduceLT, Nat.reduceLeDiff, Nat.reduceEqDiff, Nat.reduceMod, Nat.reduceDiv, Int.reduceAdd, Int.reduceSub, Int.reduceMul, Int.reduceLT, Int.reduceLE, Int.reduceEq, Int.reduceNeg, Int.reduceToNat, reduceIte, reduceCtorEq, Int.reduceBEq, Int.reduceBNe, Bool.true_beq, Bool.false_beq, Bool.true_bne, Bool.false_bne, Bool.not_true, Bool.not_false]) (by simp only [push_cast, Nat.reduceAdd, Nat.reduceSub, Nat.reduceMul, Nat.reduceLT, Nat.reduceLeDiff, Nat.reduceEqDiff, Nat.reduceMod, Nat.reduceDiv, Int.reduceAdd, Int.reduceSub, Int.reduceMul, Int.reduceLT, Int.reduceLE, Int.reduceEq, Int.reduceNeg, Int.reduceToNat, reduceIte, reduceCtorEq, Int.reduceBEq, Int.reduceBNe, Bool.true_beq, Bool.false_beq, Bool.true_bne, Bool.false_bne, Bool.not_true, Bool.not_false]) rfl rfl (by unfold two47; omega) fun v' N' ho' hf' => ?_
    obtain ⟨pb, cb, rfl⟩ := ho'.slice
    have h10 : ¬ b2 = b10 := (fresh_app hb10).2.1
    have fb' : findE (N' ++ [⟨b10, 0, .vec 5 1 1, [.int .u8 (l[k].toNat : Nat)]⟩, ⟨b2, 0, .cel 73, [.slice pa k ca]⟩]) b2 = some ⟨b2, 0, .cel 73, [.slice pa k ca]⟩ := by
      rw [findE_freshN hf' (b := b2) (e := ⟨b2, 0, .cel 73, [.slice pa k ca]⟩) (by simp only [push_cast, Nat.reduceAdd, Nat.reduceSub, Nat.reduceMul, Nat.reduceLT, Nat.reduceLeDiff, Nat.reduceEqDiff, Nat.reduceMod, Nat.reduceDiv, Int.reduceAdd, Int.reduceSub, Int.reduceMul, Int.reduceLT, Int.reduceLE, Int.reduceEq, Int.reduceNeg, Int.reduceToNat, reduceIte, reduceCtorEq, Int.reduceBEq, Int.reduceBNe, Bool.true_beq, Bool.false_beq, Bool.true_bne, Bool.false_bne, Bool.not_true, Bool.not_false, h10])]; simp only [push_cast, Nat.reduceAdd, Nat.reduceSub, Nat.reduceMul, Nat.reduceLT, Nat.reduceLeDiff, Nat.reduceEqDiff, Nat.reduceMod, Nat.reduceDiv, Int.reduceAdd, Int.reduceSub, Int.reduceMul, Int.reduceLT, Int.reduceLE, Int.reduceEq, Int.reduceNeg, Int.reduceToNat, reduceIte, reduceCtorEq, Int.reduceBEq, Int.reduceBNe, Bool.true_beq, Bool.false_beq, Bool.true_bne, Bool.false_bne, Bool.not_true, Bool.not_false, h10]
    have ub : ∀ cs, updE (N' ++ [⟨b10, 0, .vec 5 1 1, [.int .u8 (l[k].toNat : Nat)]⟩, ⟨b2, 0, .cel 73, [.slice pa k ca]⟩]) b2 cs = N' ++ [⟨b10, 0, .vec 5 1 1, [.int .u8 (l[k].toNat : Nat)]⟩, ⟨b2, 0, .cel 73, cs⟩] := fun cs => by
      rw [updE_left hf' (b := b2) (e := ⟨b2, 0, .cel 73, [.slice pa k ca]⟩) (by simp only [push_cast, Nat.reduceAdd, Nat.reduceSub, Nat.reduceMul, Nat.reduceLT, Nat.reduceLeDiff, Nat.reduceEqDiff, Nat.reduceMod, Nat.reduceDiv, Int.reduceAdd, Int.reduceSub, Int.reduceMul, Int.reduceLT, Int.reduceLE, Int.reduceEq, Int.reduceNeg, Int.reduceToNat, reduceIte, reduceCtorEq, Int.reduceBEq, Int.reduceBNe, Bool.true_beq, Bool.false_beq, Bool.true_bne, Bool.false_bne, Bool.not_true, Bool.not_false, h10])]; simp only [push_cast, Nat.reduceAdd, Nat.reduceSub, Nat.reduceMul, Nat.reduceLT, Nat.reduceLeDiff, Nat.reduceEqDiff, Nat.reduceMod, Nat.reduceDiv, Int.reduceAdd, Int.reduceSub, Int.reduceMul, Int.reduceLT, Int.reduceLE, Int.reduceEq, Int.reduceNeg, Int.reduceToNat, reduceIte, reduceCtorEq, Int.reduceBEq, Int.reduceBNe, Bool.true_beq, Bool.false_beq, Bool.true_bne, Bool.false_bne, Bool.not_true, Bool.not_false, h10]
    simp only [push_cast, Nat.reduceAdd, Nat.reduceSub, Nat.reduceMul, Nat.reduceLT, Nat.reduceLeDiff, Nat.reduceEqDiff, Nat.reduceMod, Nat.reduceDiv, Int.reduceAdd, Int.reduceSub, Int.reduceMul, Int.reduceLT, Int.reduceLE, Int.reduceEq, Int.reduceNeg, Int.reduceToNat, reduceIte, reduceCtorEq, Int.reduceBEq, Int.reduceBNe, Bool.true_beq, Bool.false_beq, Bool.true_bne, Bool.false_bne, Bool.not_true, Bool.not_false, fb', ub]
    rw [← hRK]
    refine ⟨⟨(.slice pb (k + 1) cb, N'), ho'.wr⟩, ⟨?_, freshN_blk (by rfl) (freshN_cons hf')⟩, ?_⟩
    · dsimp only
      rw [byteV_take l hk1]
      exact ho'
    · exact subH_pre (subH_cons (a := ⟨b10, 0, .vec 5 1 1, [.int .u8 (l[k].toNat : Nat)]⟩) (X := [⟨b2, 0, .cel 73, [.slice pb (k + 1) cb]⟩]) ⟨fun h => h10 h.symm, h10, trivial⟩) N'
  · rintro D s hfD hs
    obtain ⟨⟨v, N⟩, hN⟩ := s
    obtain ⟨ho, hf⟩ := hs
    dsimp only at ho hf
    unfold seqH at hfD ⊢
    dsimp only at hfD ⊢
    have hDb : ¬ b2 = D := (fresh_app (A := N) (B := [⟨b2, 0, .cel 73, [v]⟩]) hfD).2.1
    rw [show (byteArgs l).length = l.length by simp [byteArgs], List.take_length] at ho
    obtain ⟨pa, ca, rfl⟩ := ho.slice
    have fb : findE (N ++ [⟨b2, 0, .cel 73, [.slice pa l.length ca]⟩]) b2 = some ⟨b2, 0, .cel 73, [.slice pa l.length ca]⟩ := by
      rw [findE_freshN hf (b := b2) (e := ⟨b2, 0, .cel 73, [.slice pa l.length ca]⟩) (by simp only [push_cast, Nat.reduceAdd, Nat.reduceSub, Nat.reduceMul, Nat.reduceLT, Nat.reduceLeDiff, Nat.reduceEqDiff, Nat.reduceMod, Nat.reduceDiv, Int.reduceAdd, Int.reduceSub, Int.reduceMul, Int.reduceLT, Int.reduceLE, Int.reduceEq, Int.reduceNeg, Int.reduceToNat, reduceIte, reduceCtorEq, Int.reduceBEq, Int.reduceBNe, Bool.true_beq, Bool.false_beq, Bool.true_bne, Bool.false_bne, Bool.not_true, Bool.not_false])]; simp only [push_cast, Nat.reduceAdd, Nat.reduceSub, Nat.reduceMul, Nat.reduceLT, Nat.reduceLeDiff, Nat.reduceEqDiff, Nat.reduceMod, Nat.reduceDiv, Int.reduceAdd, Int.reduceSub, Int.reduceMul, Int.reduceLT, Int.reduceLE, Int.reduceEq, Int.reduceNeg, Int.reduceToNat, reduceIte, reduceCtorEq, Int.reduceBEq, Int.reduceBNe, Bool.true_beq, Bool.false_beq, Bool.true_bne, Bool.false_bne, Bool.not_true, Bool.not_false]
    have hm : marksOf (N ++ [⟨b2, 0, .cel 73, [.slice pa l.length ca]⟩]) = [] := by rw [marks_append, ho.wr.2]; rfl
    simp only [push_cast, Nat.reduceAdd, Nat.reduceSub, Nat.reduceMul, Nat.reduceLT, Nat.reduceLeDiff, Nat.reduceEqDiff, Nat.reduceMod, Nat.reduceDiv, Int.reduceAdd, Int.reduceSub, Int.reduceMul, Int.reduceLT, Int.reduceLE, Int.reduceEq, Int.reduceNeg, Int.reduceToNat, reduceIte, reduceCtorEq, Int.reduceBEq, Int.reduceBNe, Bool.true_beq, Bool.false_beq, Bool.true_bne, Bool.false_bne, Bool.not_true, Bool.not_false, hDb, fb]
    refine ⟨N, ?_, ho⟩
    rw [dropM_eq hm]
    exact List.sublist_append_left _ _
end Go.Proofs.YtfioapldbajpmaaDoor
