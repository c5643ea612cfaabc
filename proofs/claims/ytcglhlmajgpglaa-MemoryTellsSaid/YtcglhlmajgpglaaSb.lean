/- Sb: slices.Values over texts; joined. -/
import Derived.Test.YtcglhlmajgpglaaSa
import Derived.Test.YtcglhlmajgpglaaDa
set_option linter.unusedSimpArgs false
set_option linter.unusedVariables false
namespace Go.Ev
def strV (ss : List ByteArray) : List Value := ss.map .string
theorem strV_len (ss : List ByteArray) : (strV ss).length = ss.length := by simp [strV]
theorem strV_at (ss : List ByteArray) {i : Nat} (h : i < ss.length) : List.take 1 (List.drop i (strV ss)) = [.string ss[i]] := by
  unfold strV
  rw [← List.map_drop, ← List.map_take, List.drop_eq_getElem_cons h, List.take_succ_cons, List.take_zero, List.map_cons, List.map_nil]
theorem CallsV.frame {P : Program} {g : FuncId} {args : List Value} {A H : Hp} {K K' : Value → Hp → Prop} (hy : CallsV P g args H K) (hro : ∀ v H', K v H' → ∀ e ∈ H', e.wr ∨ e ∈ H) (hk : ∀ v H', K v H' → K' v (A ++ H')) : CallsV P g args (A ++ H) K' := by
  refine ⟨hy.1, fun w0 mu w hs => ?_⟩
  refine (hy.2 w (muOf H) w (frame_in hs)).mono ?_
  rintro e w' ⟨v, H', rfl, hK, hs', hm⟩
  have pAH := (List.pairwise_append.1 hs.apart).2.2
  exact ⟨v, A ++ H', rfl, hk v H' hK, frame_out hs hs' (fun e he => (hro v H' hK e he).imp id fun hm a ha hw => pAH a ha e hm (.inl hw)), by rw [marks_append, marks_append, hm]⟩
/-- texts' bytes, one text behind the other -/
def bytesL (ss : List ByteArray) : List UInt8 := (ss.map fun s => s.data.toList).flatten
theorem bytesL_take (ss : List ByteArray) {i : Nat} (h : i < ss.length) : bytesL (ss.take (i + 1)) = bytesL (ss.take i) ++ ss[i].data.toList := by
  unfold bytesL
  rw [List.take_succ_eq_append_getElem h, List.map_append, List.flatten_append]
  simp
theorem bytesL_le (ss : List ByteArray) (i : Nat) : (bytesL (ss.take i)).length ≤ (bytesL ss).length := by
  have h : bytesL ss = bytesL (ss.take i) ++ bytesL (ss.drop i) := by
    unfold bytesL
    rw [← List.flatten_append, ← List.map_append, List.take_append_drop]
  rw [h, List.length_append]
  omega
end Go.Ev
namespace Go.Proofs.Ytcglhlmajgpglaa
open Go Go.Ev Go.Proofs
set_option maxRecDepth 100000
set_option maxHeartbeats 4000000
theorem values_ok (p : Option Addr) (n c : Nat) : CallsV Try.prog 34 [.slice p n c] [] (fun r N => ∃ b1, r = .func (.func 49) #[] #[.pointer (some ⟨b1, 0, none⟩)] ∧ N = [⟨b1, 0, .cel 42, [.slice p n c]⟩]) := by
  refine callsO (noG_ok _) Try.mix Try.pl34 Try.func34 rfl Try.ntmps34 Try.results34 rfl (by first | rfl | assumption) (Nat.le_of_ble_eq_true rfl) (by kernel_rfl) ?_
  simp only [push_cast, Nat.reduceAdd, Nat.reduceSub, Nat.reduceMul, Nat.reduceLT, Nat.reduceLeDiff, Nat.reduceEqDiff, Nat.reduceMod, Nat.reduceDiv, Int.reduceAdd, Int.reduceSub, Int.reduceMul, Int.reduceLT, Int.reduceLE, Int.reduceEq, Int.reduceNeg, Int.reduceToNat, reduceIte, reduceCtorEq]
  intro b1
  exact ⟨_, List.Sublist.refl _, b1, rfl, rfl⟩
theorem strIter {Hc : Hp} {ss : List ByteArray} {b1 b0 c : Nat} {k1 k2 : Kind} (hn : ss.length < 1099511627776) (hmc : marksOf Hc = []) (h1 : findE Hc b1 = some ⟨b1, 0, k1, [.slice (some ⟨b0, 0, none⟩) ss.length c]⟩) (h2 : findE Hc b0 = some ⟨b0, 0, k2, strV ss⟩) :
    IterV Try.prog 49 [.pointer (some ⟨b1, 0, none⟩)] Hc (ss.map fun s => [.string s]) := by
  refine ⟨enterO Try.func49 rfl rfl, fun X Ho I St l x0 hro hmk h0 hy => ?_⟩
  have hmarks : ∀ x, marksOf (Hc ++ Ho x) = [] := fun x => by rw [marks_append, hmc, hmk]; rfl
  have hm0 := hmarks x0
  have h1' := fun z => findE_left (B := Ho z) h1
  have h2' := fun z => findE_left (B := Ho z) h2
  have yl : ∀ (j : Nat) (z : X) (v : Value) (K' : Value → Hp → Prop) (hj : j < ss.length), v = .string ss[j] → I j z → (∀ x', I (j + 1) x' → K' (.bool true) (Hc ++ Ho x')) → (∀ x', St x' → K' (.bool false) (Hc ++ Ho x')) → YieldV Try.prog l [v] (Hc ++ Ho z) K' := fun j z v K' hj hv hi ht hf => by
    subst hv
    refine (hy j z [.string ss[j]] (by rw [List.getElem?_map, List.getElem?_eq_getElem hj]; rfl) hi).frame ?_ ?_
    · rintro v H' (⟨rfl, x', _, rfl⟩ | ⟨rfl, x', _, rfl⟩) <;> exact hro z x'
    · rintro v H' (⟨rfl, x', h, rfl⟩ | ⟨rfl, x', h, rfl⟩)
      · exact ht x' h
      · exact hf x' h
  obtain ⟨vs, hvs⟩ : ∃ vs, vs = ss.map fun s => [Value.string s] := ⟨_, rfl⟩
  have hvl : vs.length = ss.length := by rw [hvs]; simp
  have yf : ∀ (x' : X), (I vs.length x' ∨ St x') → ∃ H'_1, List.Sublist H'_1 (dropM (Hc ++ Ho x')) ∧ ∃ z, (I vs.length z ∨ St z) ∧ H'_1 = Ho z := fun x' hst => by
    refine ⟨Ho x', ?_, x', hst, rfl⟩
    rw [dropM_eq (hmarks x')]
    exact List.sublist_append_right _ _
  rw [← hvs]
  refine callsO (noG_ok _) Try.mix Try.pl49 Try.func49 rfl Try.ntmps49 Try.results49 rfl (by first | rfl | assumption) (Nat.le_of_ble_eq_true rfl) (by kernel_rfl) ?_
  simp only [push_cast, Nat.reduceAdd, Nat.reduceSub, Nat.reduceMul, Nat.reduceLT, Nat.reduceLeDiff, Nat.reduceEqDiff, Nat.reduceMod, Nat.reduceDiv, Int.reduceAdd, Int.reduceSub, Int.reduceMul, Int.reduceLT, Int.reduceLE, Int.reduceEq, Int.reduceNeg, Int.reduceToNat, reduceIte, reduceCtorEq, h1', h2']
  refine loopO (noG_ok _) (pl := Try.pl49) Try.mix (X := Nat × X)
    (fun s => ([(0, .func (.yield l) #[] #[]), (5, .slice (some ⟨b0, 0, none⟩) ss.length c), (6, .int .i64 ss.length), (7, .int .i64 s.1)], Hc ++ Ho s.2))
    (fun s => s.1 ≤ ss.length ∧ I s.1 s.2) (fun s => ss.length - s.1) (0, x0) ?_ ?_ (by kernel_rfl) ?_
  · exact ⟨Nat.zero_le _, h0⟩
  · simp only [push_cast, Nat.reduceAdd, Nat.reduceSub, Nat.reduceMul, Nat.reduceLT, Nat.reduceLeDiff, Nat.reduceEqDiff, Nat.reduceMod, Nat.reduceDiv, Int.reduceAdd, Int.reduceSub, Int.reduceMul, Int.reduceLT, Int.reduceLE, Int.reduceEq, Int.reduceNeg, Int.reduceToNat, reduceIte, reduceCtorEq, hm0, subH_self]
  · rintro ⟨i, z⟩ ⟨hi, hI⟩
    dsimp only at hi hI ⊢
    rcases Nat.lt_or_ge i ss.length with hlt | hge
    · have i1 : (i : Int) < (ss.length : Int) := by omega
      have i2 : i + 1 ≤ (strV ss).length := by rw [strV_len]; exact hlt
      have hat := strV_at ss hlt
      simp only [push_cast, Nat.reduceAdd, Nat.reduceSub, Nat.reduceMul, Nat.reduceLT, Nat.reduceLeDiff, Nat.reduceEqDiff, Nat.reduceMod, Nat.reduceDiv, Int.reduceAdd, Int.reduceSub, Int.reduceMul, Int.reduceLT, Int.reduceLE, Int.reduceEq, Int.reduceNeg, Int.reduceToNat, reduceIte, reduceCtorEq, h1', h2', i1, i2, hat]
      refine yl i z _ _ hlt rfl hI (fun x' hx' => ?_) (fun x' hx' => ?_)
      · simp only [push_cast, Nat.reduceAdd, Nat.reduceSub, Nat.reduceMul, Nat.reduceLT, Nat.reduceLeDiff, Nat.reduceEqDiff, Nat.reduceMod, Nat.reduceDiv, Int.reduceAdd, Int.reduceSub, Int.reduceMul, Int.reduceLT, Int.reduceLE, Int.reduceEq, Int.reduceNeg, Int.reduceToNat, reduceIte, reduceCtorEq, wrap_i64' (show -9223372036854775808 ≤ (i : Int) + 1 ∧ (i : Int) + 1 ≤ 9223372036854775807 by omega)]
        exact ⟨(i + 1, x'), ⟨hlt, hx'⟩, by dsimp only; omega, ⟨rfl, subH_self _, by simp only [hmarks]⟩⟩
      · simp only [push_cast, Nat.reduceAdd, Nat.reduceSub, Nat.reduceMul, Nat.reduceLT, Nat.reduceLeDiff, Nat.reduceEqDiff, Nat.reduceMod, Nat.reduceDiv, Int.reduceAdd, Int.reduceSub, Int.reduceMul, Int.reduceLT, Int.reduceLE, Int.reduceEq, Int.reduceNeg, Int.reduceToNat, reduceIte, reduceCtorEq]
        exact yf x' (.inr hx')
    · obtain rfl : i = ss.length := by omega
      simp only [push_cast, Nat.reduceAdd, Nat.reduceSub, Nat.reduceMul, Nat.reduceLT, Nat.reduceLeDiff, Nat.reduceEqDiff, Nat.reduceMod, Nat.reduceDiv, Int.reduceAdd, Int.reduceSub, Int.reduceMul, Int.reduceLT, Int.reduceLE, Int.reduceEq, Int.reduceNeg, Int.reduceToNat, reduceIte, reduceCtorEq, h1', h2', Nat.lt_irrefl]
      exact yf z (.inl (by rw [hvl]; exact hI))
abbrev BldX := { s : Value × Value × Hp // allWr s.2.2 ∧ marksOf s.2.2 = [] }
def bldH (b : Nat) (s : BldX) : Hp := s.1.2.2 ++ [⟨b, 0, .cel 66, [s.1.1, s.1.2.1]⟩]
theorem bldH_wr (b : Nat) (s : BldX) : ∀ e ∈ bldH b s, e.wr := fun e he => by
  rcases List.mem_append.1 he with h | h
  · exact allWr_mem s.2.1 e h
  · rw [List.mem_singleton.1 h]; trivial
theorem bldH_marks (b : Nat) (s : BldX) : marksOf (bldH b s) = [] := by unfold bldH; rw [marks_append, s.2.2]; rfl
theorem joined_ok (ss : List ByteArray) (b1 b0 c : Nat) (hne : b1 ≠ b0) (hn : ss.length < 1099511627776) (hlen : (bytesL ss).length ≤ 140737488355328) :
    CallsV Try.prog 33 [.func (.func 49) #[] #[.pointer (some ⟨b1, 0, none⟩)]] [⟨b1, 0, .ro, [.slice (some ⟨b0, 0, none⟩) ss.length c]⟩, ⟨b0, 0, .ro, strV ss⟩] (Ret0 (.string ⟨(bytesL ss).toArray⟩)) := by
  have hne' : b0 ≠ b1 := Ne.symm hne
  obtain ⟨R, hR⟩ : ∃ R : ByteArray, R = ⟨(bytesL ss).toArray⟩ := ⟨_, rfl⟩
  rw [← hR]
  refine callsO (noG_ok _) Try.mix Try.pl33 Try.func33 rfl Try.ntmps33 Try.results33 rfl (by first | rfl | assumption) (Nat.le_of_ble_eq_true rfl) (by kernel_rfl) ?_
  simp only [push_cast, Nat.reduceAdd, Nat.reduceSub, Nat.reduceMul, Nat.reduceLT, Nat.reduceLeDiff, Nat.reduceEqDiff, Nat.reduceMod, Nat.reduceDiv, Int.reduceAdd, Int.reduceSub, Int.reduceMul, Int.reduceLT, Int.reduceLE, Int.reduceEq, Int.reduceNeg, Int.reduceToNat, reduceIte, reduceCtorEq]
  intro b3 hb3
  refine rangeO (noG_ok _) (pl := Try.pl33) Try.mix (Hc := [⟨b1, 0, .ro, [.slice (some ⟨b0, 0, none⟩) ss.length c]⟩, ⟨b0, 0, .ro, strV ss⟩]) (Hm := [])
    (strIter (ss := ss) (b1 := b1) (b0 := b0) (c := c) (k1 := .ro) (k2 := .ro) hn rfl (by simp [findE]) (by simp [findE, hne'])) rfl
    (X := BldX) (bldH b3)
    (fun k s => (s.1.1 = .pointer none ∨ s.1.1 = .pointer (some ⟨b3, 0, none⟩)) ∧ OutC 5 1 (byteV (bytesL (ss.take k))) (bytesL (ss.take k)).length s.1.2.1 s.1.2.2 ∧ freshN s.1.2.2 [⟨b3, 0, .cel 66, [s.1.1, s.1.2.1]⟩]) (fun _ _ => False) ⟨(.pointer none, .slice none 0 0, []), trivial, rfl⟩
    ?_ ?_ ?_ ?_ (by simp) (fun s => bldH_marks b3 s) (fun s u e he => .inl (bldH_wr b3 u e he)) ?_ (by kernel_rfl) (by kernel_rfl) (fun _ _ h => h.elim) ?_ ?_ (fun _ _ _ _ h => h.elim)
  · exact ⟨.inl rfl, .nil _ _, trivial⟩
  · simp only [push_cast, Nat.reduceAdd, Nat.reduceSub, Nat.reduceMul, Nat.reduceLT, Nat.reduceLeDiff, Nat.reduceEqDiff, Nat.reduceMod, Nat.reduceDiv, Int.reduceAdd, Int.reduceSub, Int.reduceMul, Int.reduceLT, Int.reduceLE, Int.reduceEq, Int.reduceNeg, Int.reduceToNat, reduceIte, reduceCtorEq, bldH, hb3, hne, hne']
  · rfl
  · rfl
  · intro args ha
    obtain ⟨z, _, rfl⟩ := List.mem_map.1 ha
    rfl
  · rintro lo k s args hk hs
    obtain ⟨x, hj, rfl⟩ := Option.map_eq_some_iff.1 ((List.getElem?_map ..).symm.trans hk)
    obtain ⟨hk1, rfl⟩ := List.getElem?_eq_some_iff.1 hj
    obtain ⟨hp, ho, hf⟩ := hs
    have hbl := bytesL_le ss (k + 1)
    rw [bytesL_take ss hk1, List.length_append] at hbl
    have hsz : ss[k].data.toList.length = ss[k].size := by rw [Array.length_toList]; rfl
    have hmk := bldH_marks b3 s
    generalize hRK : (roundK _ _ _ k : Exit → Tm → Hp → Prop) = RK
    show oC _ _ _ _ _ _ _ (parT 10 _ _ [Value.string ss[k]]) _
    simp only [push_cast, Nat.reduceAdd, Nat.reduceSub, Nat.reduceMul, Nat.reduceLT, Nat.reduceLeDiff, Nat.reduceEqDiff, Nat.reduceMod, Nat.reduceDiv, Int.reduceAdd, Int.reduceSub, Int.reduceMul, Int.reduceLT, Int.reduceLE, Int.reduceEq, Int.reduceNeg, Int.reduceToNat, reduceIte, reduceCtorEq, hmk]
    refine CallsV.frame (A := []) (write_ok b3 s.1.1 s.1.2.1 hp _ _ ho hf ss[k] (by omega)) ?_ ?_
    · rintro v H' ⟨rfl, v', N', ho', hf', rfl⟩ e he
      rcases List.mem_append.1 he with h | h
      · exact .inl (allWr_mem ho'.wr.1 e h)
      · rw [List.mem_singleton.1 h]; exact .inl trivial
    · rintro v H' ⟨rfl, v', N', ho', hf', rfl⟩
      simp only [push_cast, Nat.reduceAdd, Nat.reduceSub, Nat.reduceMul, Nat.reduceLT, Nat.reduceLeDiff, Nat.reduceEqDiff, Nat.reduceMod, Nat.reduceDiv, Int.reduceAdd, Int.reduceSub, Int.reduceMul, Int.reduceLT, Int.reduceLE, Int.reduceEq, Int.reduceNeg, Int.reduceToNat, reduceIte, reduceCtorEq]
      rw [← hRK]
      refine ⟨⟨(.pointer (some ⟨b3, 0, none⟩), v', N'), ho'.wr⟩, ⟨.inr rfl, ?_, hf'⟩, subH_self _⟩
      dsimp only
      rw [bytesL_take ss hk1]
      exact ho'
  · rintro D s hfD hs
    obtain ⟨hp, ho, hf⟩ := hs
    have hmk := bldH_marks b3 s
    rw [List.length_map, List.take_length] at ho
    simp only [push_cast, Nat.reduceAdd, Nat.reduceSub, Nat.reduceMul, Nat.reduceLT, Nat.reduceLeDiff, Nat.reduceEqDiff, Nat.reduceMod, Nat.reduceDiv, Int.reduceAdd, Int.reduceSub, Int.reduceMul, Int.reduceLT, Int.reduceLE, Int.reduceEq, Int.reduceNeg, Int.reduceToNat, reduceIte, reduceCtorEq]
    refine CallsV.frame (A := [⟨D, 0, .obj (.deferred (some [])), []⟩]) (string_ok b3 s.1.1 s.1.2.1 (bytesL ss) (by omega) _ ho hf) ?_ ?_
    · rintro v H' ⟨rfl, rfl⟩ e he
      cases he
    · rintro v H' ⟨rfl, rfl⟩
      rw [← hR]
      simp only [push_cast, Nat.reduceAdd, Nat.reduceSub, Nat.reduceMul, Nat.reduceLT, Nat.reduceLeDiff, Nat.reduceEqDiff, Nat.reduceMod, Nat.reduceDiv, Int.reduceAdd, Int.reduceSub, Int.reduceMul, Int.reduceLT, Int.reduceLE, Int.reduceEq, Int.reduceNeg, Int.reduceToNat, reduceIte, reduceCtorEq]
end Go.Proofs.Ytcglhlmajgpglaa
