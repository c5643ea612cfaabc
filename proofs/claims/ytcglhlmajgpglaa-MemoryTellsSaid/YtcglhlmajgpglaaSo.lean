/- So: the table of all functions; awake. -/
import Derived.Test.YtcglhlmajgpglaaSn
import Derived.Test.YtcglhlmajgpglaaWl
set_option linter.unusedSimpArgs false
set_option linter.unusedVariables false
namespace Go.Ev
theorem l_append3 {α : Type} (a b : List α) : List.append a b = a ++ b := rfl
attribute [push_cast] l_append3
theorem beN_wbytes (w : W) : beN ((wbytes w).reverse.take 32) = w.num := by
  have hl : (wbytes w).reverse.length = 32 := by rw [List.length_reverse, wbytes_len]
  rw [List.take_of_length_le (by omega)]
  have hlt := beN_lt (wbytes w).reverse
  rw [hl] at hlt
  have hw := w.num_lt
  have hd : ∀ i, i < 32 → digN (beN (wbytes w).reverse) i = digN w.num i := fun i hi => by
    rw [digN_beN _ i (by omega)]
    have h1 : (wbytes w).reverse[i]? = some (UInt8.ofNat (digN w.num i)) := by
      rw [List.getElem?_reverse (by rw [wbytes_len]; exact hi), wbytes_len, wbytes_at w (by omega)]
      congr 3; omega
    rw [List.getElem?_eq_getElem (by omega)] at h1
    rw [Option.some.inj h1, ofNat_dig]
  have key : ∀ (a b k : Nat), (∀ i, i < k → digN a i = digN b i) → a % 256 ^ k = b % 256 ^ k := fun a b k => by
    induction k with
    | zero => intro _; simp [Nat.mod_one]
    | succ k ih =>
      intro h
      have h1 := ih fun i hi => h i (by omega)
      have h2 := h k (by omega)
      rw [digN_eq, digN_eq] at h2
      rw [Nat.pow_succ, Nat.mod_mul, Nat.mod_mul, h1, h2]
  have h := key _ _ 32 hd
  rw [Nat.mod_eq_of_lt hlt, Nat.mod_eq_of_lt (Nat.lt_of_lt_of_le hw (by decide))] at h
  exact h
theorem fromb_wbytes (w : W) : frombW (wbytes w) = w := by rw [frombW_eq, beN_wbytes, W.of_num]
end Go.Ev
namespace Go.Proofs.Ytcglhlmajgpglaa
open Go Go.Ev Go.Proofs
set_option maxRecDepth 100000
set_option maxHeartbeats 4000000
theorem rneedG_ok (args : List Value) (v : Value) (h : needG args = some v) : CallsV Try.prog 19 args [] (Ret0 v) := by
  obtain ⟨x, y, rfl, rfl⟩ := wbin_some (g := fun a b => .tuple #[.int .i64 (needI a b).1, .bool (needI a b).2]) (by funext l; rfl) h
  exact rneed_ok x y
theorem rpieceG_ok (args : List Value) (v : Value) (h : pieceG args = some v) : CallsV Try.prog 29 args [] (Ret0 v) := by
  unfold pieceG at h
  split at h
  · rename_i b x n
    cases hx : wOf x with
    | none => simp [hx] at h
    | some w =>
      simp only [hx, Option.bind_some, Option.some.injEq] at h
      rw [wOf_some hx, ← h]
      exact rpiece_ok b w n
  · cases h
theorem rgrowG_ok (args : List Value) (v : Value) (h : growG args = some v) : CallsV Try.prog 20 args [] (Ret0 v) := by
  unfold growG at h
  split at h
  · cases h; exact rgrow_ok _ _
  · cases h
theorem rstoreG_ok (args : List Value) (v : Value) (h : storeG args = some v) : CallsV Try.prog 24 args [] (Ret0 v) := by
  obtain ⟨b, a, w, rfl, rfl⟩ := siw_some (g := fun b a w => .tuple #[.string (copyP b a (bs (wbytes w))).1, .int .i64 (copyP b a (bs (wbytes w))).2]) (by funext l; rfl) h
  exact rstore_ok b a w
theorem rbyteG_ok (args : List Value) (v : Value) (h : byteG args = some v) : CallsV Try.prog 26 args [] (Ret0 v) := by
  obtain ⟨b, a, w, rfl, rfl⟩ := siw_some (g := fun b a w => .tuple #[.string (copyP b a (byteP w)).1, .int .i64 (copyP b a (byteP w)).2]) (by funext l; rfl) h
  exact rbyte_ok b a w
noncomputable def gO0 : Gam := (addG 26 byteG (addG 24 storeG (addG 20 growG (addG 29 pieceG (addG 19 needG (addG 25 byteG (addG 23 storeG (addG 21 loadG (addG 13 ofG (addG 10 pickG gM3))))))))))
attribute [push_cast] gO0
theorem gO0_ok : GamOk Try.prog gO0 := (addG_ok rbyteG_ok (addG_ok rstoreG_ok (addG_ok rgrowG_ok (addG_ok rpieceG_ok (addG_ok rneedG_ok (addG_ok byteG_ok (addG_ok storeG_ok (addG_ok loadG_ok (addG_ok ofG_ok (addG_ok pickG_ok gM3_ok))))))))))
def plW : Plans := fun i => if i = 6 then [(0, 9)] else if i = 7 then [(0, 9)] else Try.pl8 i
attribute [push_cast] plW
theorem aw_grow : growP { data := #[] } 1 = (bs (zeros 32), 0) := by
  have h : mayB 0 = true := by rw [mayB_eq]; rfl
  have h2 : withI 1 0 32768 = 1 := by rw [withI_eq]; rfl
  unfold growP
  rw [if_pos ⟨h, h2⟩]; rfl
theorem aw_may32 : mayB 32 = true := by rw [mayB_eq]; rfl
theorem aw_there (a n : Int) (h : 0 ≤ n ∧ 0 ≤ a ∧ a ≤ 32 ∧ n ≤ 32 - a) : thereB 32 a n = true := by
  rw [thereB_eq, aw_may32, Bool.true_and, decide_eq_true_eq]; exact h
theorem aw_store : copyP (bs (zeros 32)) 0 (bs (wbytes (ofW 1))) = (bs (wbytes (ofW 1)), 0) := by
  have hl := wbytes_len (ofW 1)
  have h : thereB (bs (zeros 32)).size 0 ((bs (wbytes (ofW 1))).size : Int) = true := by rw [bs_size, bs_size, hl, zeros_len]; exact aw_there _ _ (by decide)
  unfold copyP
  rw [if_pos h, bs_data, bs_data, bs_size, hl]
  have e : List.drop (Int.toNat 0 + 32) (zeros 32) = [] := List.drop_eq_nil_of_le (by rw [zeros_len]; decide)
  rw [e, List.append_nil]; rfl
theorem aw_dig : UInt8.ofNat (digN (ofW 1).num 0) = 1 := by
  rw [show (ofW 1).num = 1 from of_nat 1 (by decide), digN_eq]; rfl
theorem aw_slice : sliceP (bs (wbytes (ofW 1))) 31 1 = (bs [1], 0) := by
  have hl := wbytes_len (ofW 1)
  have h : thereB (bs (wbytes (ofW 1))).size 31 1 = true := by rw [bs_size, hl]; exact aw_there _ _ (by decide)
  unfold sliceP
  rw [if_pos h, bs_data]
  have hlt : 31 < (wbytes (ofW 1)).length := by rw [hl]; decide
  have hg := wbytes_at (ofW 1) (j := 31) (by decide)
  rw [List.getElem?_eq_getElem hlt] at hg
  have e : List.take (Int.toNat 1) (List.drop (Int.toNat 31) (wbytes (ofW 1))) = [1] := by
    show List.take 1 (List.drop 31 (wbytes (ofW 1))) = [1]
    rw [List.drop_eq_getElem_cons hlt, List.take_succ_cons, List.take_zero, Option.some.inj hg, ← aw_dig]
  rw [e]
theorem aw_load : loadP (bs (wbytes (ofW 1))) 0 = (ofW 1, 0) := by
  have hl := wbytes_len (ofW 1)
  have h : thereB (bs (wbytes (ofW 1))).size 0 32 = true := by rw [bs_size, hl]; exact aw_there _ _ (by decide)
  unfold loadP
  rw [if_pos h, bs_data]
  have e : List.take 32 (List.drop (Int.toNat 0) (wbytes (ofW 1))) = wbytes (ofW 1) := List.take_of_length_le (by rw [List.length_drop, hl]; decide)
  rw [e, fromb_wbytes]
theorem aw_load1 : loadP (bs (wbytes (ofW 1))) 1 = (W.zero, 1) := by
  have hl := wbytes_len (ofW 1)
  have h : thereB (bs (wbytes (ofW 1))).size 1 32 = false := by rw [bs_size, hl, thereB_eq, aw_may32]; rfl
  unfold loadP
  rw [h]; rfl
theorem aw_need : needI (ofW 31) (ofW 2) = (2, true) := by
  rw [needI_eq, show (ofW 31).num = 31 from of_nat 31 (by decide), show (ofW 2).num = 2 from of_nat 2 (by decide)]; rfl
theorem aw_need2 : needI (ofW 1048576) (ofW 1) = (0, false) := by
  rw [needI_eq, show (ofW 1048576).num = 1048576 from of_nat 1048576 (by decide), show (ofW 1).num = 1 from of_nat 1 (by decide)]; rfl
theorem aw_piece : pieceP { data := #[97, 98, 99] } (ofW 2) 3 = (bs [99, 0, 0], 0) := by
  have h2 : withI 3 0 1048576 = 3 := by rw [withI_eq]; rfl
  have h3 : intW (ofW 2) = (2, true) := by rw [intW_eq, show (ofW 2).num = 2 from of_nat 2 (by decide)]; rfl
  unfold pieceP
  rw [if_pos h2]
  unfold fromL
  rw [h3]; rfl
theorem aw_cost : costI 1 = 3 := by rw [costI_eq, withI_eq]; rfl
theorem aw_cost2 : costI 1024 = 5120 := by rw [costI_eq, withI_eq]; rfl
theorem awake_ok : CallsV Try.prog 8 [] [] (Ret0 (.bool true)) := by
  have j1 : i64B 1 = true := i64B_in (by decide)
  have j2 : i64B 31 = true := i64B_in (by decide)
  have j3 : i64B 2 = true := i64B_in (by decide)
  have j4 : i64B 1048576 = true := i64B_in (by decide)
  have z32 : (((zeros 32).length : Nat) : Int) = 32 := by rw [zeros_len]; rfl
  have s1 : ({ data := #[1] } : ByteArray).toList = [1] := bs_toList [1]
  have s2 : ({ data := #[99, 0, 0] } : ByteArray).toList = [99, 0, 0] := bs_toList [99, 0, 0]
  refine callsO gO0_ok Try.mix plW Try.func8 rfl Try.ntmps8 Try.results8 rfl (by first | rfl | assumption) (Nat.le_of_ble_eq_true rfl) (by kernel_rfl) ?_
  simp only [push_cast, Nat.reduceAdd, Nat.reduceSub, Nat.reduceMul, Nat.reduceLT, Nat.reduceLeDiff, Nat.reduceEqDiff, Nat.reduceMod, Nat.reduceDiv, Int.reduceAdd, Int.reduceSub, Int.reduceMul, Int.reduceLT, Int.reduceLE, Int.reduceEq, Int.reduceNeg, Int.reduceToNat, reduceIte, reduceCtorEq, j1, aw_grow, aw_store, aw_slice, aw_load]
  intro b8
  refine regO gO0_ok ?_
  simp only [push_cast, Nat.reduceAdd, Nat.reduceSub, Nat.reduceMul, Nat.reduceLT, Nat.reduceLeDiff, Nat.reduceEqDiff, Nat.reduceMod, Nat.reduceDiv, Int.reduceAdd, Int.reduceSub, Int.reduceMul, Int.reduceLT, Int.reduceLE, Int.reduceEq, Int.reduceNeg, Int.reduceToNat, reduceIte, reduceCtorEq, aw_load1]
  intro b10 hb10
  refine regO gO0_ok ?_
  simp only [push_cast, Nat.reduceAdd, Nat.reduceSub, Nat.reduceMul, Nat.reduceLT, Nat.reduceLeDiff, Nat.reduceEqDiff, Nat.reduceMod, Nat.reduceDiv, Int.reduceAdd, Int.reduceSub, Int.reduceMul, Int.reduceLT, Int.reduceLE, Int.reduceEq, Int.reduceNeg, Int.reduceToNat, reduceIte, reduceCtorEq, j1, j2, j3, j4, hb10, aw_need, aw_need2, aw_piece, aw_cost, aw_cost2, z32, s1, s2, decide_true]
end Go.Proofs.Ytcglhlmajgpglaa
