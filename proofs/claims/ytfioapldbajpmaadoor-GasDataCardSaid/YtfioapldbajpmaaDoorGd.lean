/- Gd: gas.Start, and the document's own. -/
import Derived.Test.YtfioapldbajpmaaDoorGc
set_option linter.unusedSimpArgs false
set_option linter.unusedVariables false
namespace Go.Ev
theorem byteV_at (l : List UInt8) {i : Nat} (h : i < l.length) : List.take 1 (List.drop i (byteV l)) = [.int .u8 (l[i].toNat : Nat)] := by
  unfold byteV
  rw [← List.map_drop, ← List.map_take, List.drop_eq_getElem_cons h, List.take_succ_cons, List.take_zero, List.map_cons, List.map_nil]
def costB (x : UInt8) : Nat := if x = 0 then 4 else 16
def dataN : List UInt8 → Nat
  | [] => 0
  | x :: r => costB x + dataN r
theorem dataN_app : ∀ a b : List UInt8, dataN (a ++ b) = dataN a + dataN b
  | [], b => by simp [dataN]
  | x :: a, b => by
    show costB x + dataN (a ++ b) = costB x + dataN a + dataN b
    rw [dataN_app a b, Nat.add_assoc]
theorem dataN_le : ∀ l : List UInt8, dataN l ≤ 16 * l.length
  | [] => Nat.le_refl _
  | x :: r => by
    have := dataN_le r
    show costB x + dataN r ≤ 16 * (r.length + 1)
    have : costB x ≤ 16 := by unfold costB; split <;> omega
    omega
theorem dataN_take (l : List UInt8) {i : Nat} (h : i < l.length) : dataN (l.take (i + 1)) = dataN (l.take i) + costB l[i] := by
  rw [List.take_succ_eq_append_getElem h, dataN_app]; rfl
noncomputable def startI : List UInt8 → Bool → Nat := hid fun l b => 21000 + dataN (l.take 1048576) + if b then 32000 + ginitI l.length false else 0
theorem startI_eq (l : List UInt8) (b : Bool) : startI l b = 21000 + dataN (l.take 1048576) + if b then 32000 + ginitI l.length false else 0 := by unfold startI; rw [hid_eq]
theorem ginitI_le (n : Int) (b : Bool) : ginitI n b ≤ 262144 := by
  have := gwordsI_le n
  rw [ginitI_eq]; split <;> omega
theorem gmany_len (n : Nat) : gmanyI (n : Int) = min n 1048576 := by
  have h := gmanyI_eq n
  unfold maxZ minZ at h
  split at h <;> split at h <;> omega
noncomputable def startG : List Value → Option Value
  | [.string s, .bool b] => some (.int .i64 (startI s.data.toList b))
  | _ => none
def costG5 : List Value → Option Value
  | [.int .u8 x] => some (.int .i64 (if x == 0 then 4 else 16))
  | _ => none
attribute [push_cast] startG costG5
end Go.Ev
namespace Go.Proofs.YtfioapldbajpmaaDoor
open Go Go.Ev Go.Proofs
set_option maxRecDepth 100000
set_option maxHeartbeats 4000000
theorem valuesB_ok (p : Option Addr) (n c : Nat) : CallsV Tryd.prog 49 [.slice p n c] [] (fun r N => ∃ b1, r = .func (.func 65) #[] #[.pointer (some ⟨b1, 0, none⟩)] ∧ N = [⟨b1, 0, .cel 73, [.slice p n c]⟩]) := by
  refine callsO (noG_ok _) Tryd.mix Tryd.pl49 Tryd.func49 rfl Tryd.ntmps49 Tryd.results49 rfl (by first | rfl | assumption) (Nat.le_of_ble_eq_true rfl) (by kernel_rfl) ?_
  simp only [push_cast, Nat.reduceAdd, Nat.reduceSub, Nat.reduceMul, Nat.reduceLT, Nat.reduceLeDiff, Nat.reduceEqDiff, Nat.reduceMod, Nat.reduceDiv, Int.reduceAdd, Int.reduceSub, Int.reduceMul, Int.reduceLT, Int.reduceLE, Int.reduceEq, Int.reduceNeg, Int.reduceToNat, reduceIte, reduceCtorEq, Int.reduceBEq, Int.reduceBNe, Bool.true_beq, Bool.false_beq, Bool.true_bne, Bool.false_bne, Bool.not_true, Bool.not_false]
  intro b1
  exact ⟨_, List.Sublist.refl _, b1, rfl, rfl⟩
theorem byteIter {Hc : Hp} {ss : List UInt8} {b1 b0 c : Nat} {k1 k2 : Kind} (hn : ss.length < 1099511627776) (hmc : marksOf Hc = []) (h1 : findE Hc b1 = some ⟨b1, 0, k1, [.slice (some ⟨b0, 0, none⟩) ss.length c]⟩) (h2 : findE Hc b0 = some ⟨b0, 0, k2, byteV ss⟩) :
    IterV Tryd.prog 65 [.pointer (some ⟨b1, 0, none⟩)] Hc (ss.map fun s => [.int .u8 (s.toNat : Nat)]) := by
  refine ⟨enterO Tryd.func65 rfl rfl, fun X Ho I St l x0 hro hmk h0 hy => ?_⟩
  have hmarks : ∀ x, marksOf (Hc ++ Ho x) = [] := fun x => by rw [marks_append, hmc, hmk]; rfl
  have hm0 := hmarks x0
  have h1' := fun z => findE_left (B := Ho z) h1
  have h2' := fun z => findE_left (B := Ho z) h2
  have yl : ∀ (j : Nat) (z : X) (v : Value) (K' : Value → Hp → Prop) (hj : j < ss.length), v = .int .u8 (ss[j].toNat : Nat) → I j z → (∀ x', I (j + 1) x' → K' (.bool true) (Hc ++ Ho x')) → (∀ x', St x' → K' (.bool false) (Hc ++ Ho x')) → YieldV Tryd.prog l [v] (Hc ++ Ho z) K' := fun j z v K' hj hv hi ht hf => by
    subst hv
    refine (hy j z [.int .u8 (ss[j].toNat : Nat)] (by rw [List.getElem?_map, List.getElem?_eq_getElem hj]; rfl) hi).frame ?_ ?_
    · rintro v H' (⟨rfl, x', _, rfl⟩ | ⟨rfl, x', _, rfl⟩) <;> exact hro z x'
    · rintro v H' (⟨rfl, x', h, rfl⟩ | ⟨rfl, x', h, rfl⟩)
      · exact ht x' h
      · exact hf x' h
  obtain ⟨vs, hvs⟩ : ∃ vs, vs = ss.map fun s => [Value.int .u8 (s.toNat : Nat)] := ⟨_, rfl⟩
  have hvl : vs.length = ss.length := by rw [hvs]; simp
  have yf : ∀ (x' : X), (I vs.length x' ∨ St x') → ∃ H'_1, List.Sublist H'_1 (dropM (Hc ++ Ho x')) ∧ ∃ z, (I vs.length z ∨ St z) ∧ H'_1 = Ho z := fun x' hst => by
    refine ⟨Ho x', ?_, x', hst, rfl⟩
    rw [dropM_eq (hmarks x')]
    exact List.sublist_append_right _ _
  rw [← hvs]
  refine callsO (noG_ok _) Tryd.mix Tryd.pl65 Tryd.func65 rfl Tryd.ntmps65 Tryd.results65 rfl (by first | rfl | assumption) (Nat.le_of_ble_eq_true rfl) (by kernel_rfl) ?_
  simp only [push_cast, Nat.reduceAdd, Nat.reduceSub, Nat.reduceMul, Nat.reduceLT, Nat.reduceLeDiff, Nat.reduceEqDiff, Nat.reduceMod, Nat.reduceDiv, Int.reduceAdd, Int.reduceSub, Int.reduceMul, Int.reduceLT, Int.reduceLE, Int.reduceEq, Int.reduceNeg, Int.reduceToNat, reduceIte, reduceCtorEq, Int.reduceBEq, Int.reduceBNe, Bool.true_beq, Bool.false_beq, Bool.true_bne, Bool.false_bne, Bool.not_true, Bool.not_false, h1', h2']
  refine loopO (noG_ok _) (pl := Tryd.pl65) Tryd.mix (X := Nat × X)
    (fun s => ([(0, .func (.yield l) #[] #[]), (5, .slice (some ⟨b0, 0, none⟩) ss.length c), (6, .int .i64 ss.length), (7, .int .i64 s.1)], Hc ++ Ho s.2))
    (fun s => s.1 ≤ ss.length ∧ I s.1 s.2) (fun s => ss.length - s.1) (0, x0) ?_ ?_ (by kernel_rfl) ?_
  · exact ⟨Nat.zero_le _, h0⟩
  · simp only [push_cast, Nat.reduceAdd, Nat.reduceSub, Nat.reduceMul, Nat.reduceLT, Nat.reduceLeDiff, Nat.reduceEqDiff, Nat.reduceMod, Nat.reduceDiv, Int.reduceAdd, Int.reduceSub, Int.reduceMul, Int.reduceLT, Int.reduceLE, Int.reduceEq, Int.reduceNeg, Int.reduceToNat, reduceIte, reduceCtorEq, Int.reduceBEq, Int.reduceBNe, Bool.true_beq, Bool.false_beq, Bool.true_bne, Bool.false_bne, Bool.not_true, Bool.not_false, hm0, subH_self]
  · rintro ⟨i, z⟩ ⟨hi, hI⟩
    dsimp only at hi hI ⊢
    rcases Nat.lt_or_ge i ss.length with hlt | hge
    · have i1 : (i : Int) < (ss.length : Int) := by omega
      have i2 : i + 1 ≤ (byteV ss).length := by rw [byteV_len]; exact hlt
      have hat := byteV_at ss hlt
      simp only [push_cast, Nat.reduceAdd, Nat.reduceSub, Nat.reduceMul, Nat.reduceLT, Nat.reduceLeDiff, Nat.reduceEqDiff, Nat.reduceMod, Nat.reduceDiv, Int.reduceAdd, Int.reduceSub, Int.reduceMul, Int.reduceLT, Int.reduceLE, Int.reduceEq, Int.reduceNeg, Int.reduceToNat, reduceIte, reduceCtorEq, Int.reduceBEq, Int.reduceBNe, Bool.true_beq, Bool.false_beq, Bool.true_bne, Bool.false_bne, Bool.not_true, Bool.not_false, h1', h2', i1, i2, hat]
      refine yl i z _ _ hlt rfl hI (fun x' hx' => ?_) (fun x' hx' => ?_)
      · simp only [push_cast, Nat.reduceAdd, Nat.reduceSub, Nat.reduceMul, Nat.reduceLT, Nat.reduceLeDiff, Nat.reduceEqDiff, Nat.reduceMod, Nat.reduceDiv, Int.reduceAdd, Int.reduceSub, Int.reduceMul, Int.reduceLT, Int.reduceLE, Int.reduceEq, Int.reduceNeg, Int.reduceToNat, reduceIte, reduceCtorEq, Int.reduceBEq, Int.reduceBNe, Bool.true_beq, Bool.false_beq, Bool.true_bne, Bool.false_bne, Bool.not_true, Bool.not_false, wrap_i64' (show -9223372036854775808 ≤ (i : Int) + 1 ∧ (i : Int) + 1 ≤ 9223372036854775807 by omega)]
        exact ⟨(i + 1, x'), ⟨hlt, hx'⟩, by dsimp only; omega, ⟨rfl, subH_self _, by simp only [hmarks]⟩⟩
      · simp only [push_cast, Nat.reduceAdd, Nat.reduceSub, Nat.reduceMul, Nat.reduceLT, Nat.reduceLeDiff, Nat.reduceEqDiff, Nat.reduceMod, Nat.reduceDiv, Int.reduceAdd, Int.reduceSub, Int.reduceMul, Int.reduceLT, Int.reduceLE, Int.reduceEq, Int.reduceNeg, Int.reduceToNat, reduceIte, reduceCtorEq, Int.reduceBEq, Int.reduceBNe, Bool.true_beq, Bool.false_beq, Bool.true_bne, Bool.false_bne, Bool.not_true, Bool.not_false]
        exact yf x' (.inr hx')
    · obtain rfl : i = ss.length := by omega
      simp only [push_cast, Nat.reduceAdd, Nat.reduceSub, Nat.reduceMul, Nat.reduceLT, Nat.reduceLeDiff, Nat.reduceEqDiff, Nat.reduceMod, Nat.reduceDiv, Int.reduceAdd, Int.reduceSub, Int.reduceMul, Int.reduceLT, Int.reduceLE, Int.reduceEq, Int.reduceNeg, Int.reduceToNat, reduceIte, reduceCtorEq, Int.reduceBEq, Int.reduceBNe, Bool.true_beq, Bool.false_beq, Bool.true_bne, Bool.false_bne, Bool.not_true, Bool.not_false, h1', h2', Nat.lt_irrefl]
      exact yf z (.inl (by rw [hvl]; exact hI))
theorem costG5_ok (args : List Value) (v : Value) (h : costG5 args = some v) : CallsV Tryd.prog 50 args [] (Ret0 v) := by
  unfold costG5 at h
  split at h
  case h_2 => cases h
  rename_i x
  cases h
  refine callsO (noG_ok _) Tryd.mix Tryd.pl50 Tryd.func50 rfl Tryd.ntmps50 Tryd.results50 rfl (by first | rfl | assumption) (Nat.le_of_ble_eq_true rfl) (by kernel_rfl) ?_
  cases hx : (x == 0)
  · simp only [push_cast, Nat.reduceAdd, Nat.reduceSub, Nat.reduceMul, Nat.reduceLT, Nat.reduceLeDiff, Nat.reduceEqDiff, Nat.reduceMod, Nat.reduceDiv, Int.reduceAdd, Int.reduceSub, Int.reduceMul, Int.reduceLT, Int.reduceLE, Int.reduceEq, Int.reduceNeg, Int.reduceToNat, reduceIte, reduceCtorEq, Int.reduceBEq, Int.reduceBNe, Bool.true_beq, Bool.false_beq, Bool.true_bne, Bool.false_bne, Bool.not_true, Bool.not_false, hx]
  · simp only [push_cast, Nat.reduceAdd, Nat.reduceSub, Nat.reduceMul, Nat.reduceLT, Nat.reduceLeDiff, Nat.reduceEqDiff, Nat.reduceMod, Nat.reduceDiv, Int.reduceAdd, Int.reduceSub, Int.reduceMul, Int.reduceLT, Int.reduceLE, Int.reduceEq, Int.reduceNeg, Int.reduceToNat, reduceIte, reduceCtorEq, Int.reduceBEq, Int.reduceBNe, Bool.true_beq, Bool.false_beq, Bool.true_bne, Bool.false_bne, Bool.not_true, Bool.not_false, hx]
noncomputable def gG8 : Gam := (addG 50 costG5 noG)
attribute [push_cast] gG8
theorem gG8_ok : GamOk Tryd.prog gG8 := (addG_ok costG5_ok (noG_ok _))
def sumBH (b3 b4 : Nat) (n : Nat) : Hp := [⟨b4, 0, .cel 3, [.int .i64 n]⟩, ⟨b3, 0, .cel 74, [.func (.func 50) #[] #[]]⟩]
theorem sumB_ok (l : List UInt8) (b1 b0 c : Nat) (hne : b1 ≠ b0) (hn : l.length ≤ 1048576) :
    CallsV Tryd.prog 48 [.func (.func 65) #[] #[.pointer (some ⟨b1, 0, none⟩)], .func (.func 50) #[] #[]] [⟨b1, 0, .ro, [.slice (some ⟨b0, 0, none⟩) l.length c]⟩, ⟨b0, 0, .ro, byteV l⟩] (Ret0 (.int .i64 (dataN l))) := by
  have hne' : b0 ≠ b1 := Ne.symm hne
  obtain ⟨R, hR⟩ : ∃ R : Nat, R = dataN l := ⟨_, rfl⟩
  rw [← hR]
  refine callsO gG8_ok Tryd.mix Tryd.pl48 Tryd.func48 rfl Tryd.ntmps48 Tryd.results48 rfl (by first | rfl | assumption) (Nat.le_of_ble_eq_true rfl) (by kernel_rfl) ?_
  simp only [push_cast, Nat.reduceAdd, Nat.reduceSub, Nat.reduceMul, Nat.reduceLT, Nat.reduceLeDiff, Nat.reduceEqDiff, Nat.reduceMod, Nat.reduceDiv, Int.reduceAdd, Int.reduceSub, Int.reduceMul, Int.reduceLT, Int.reduceLE, Int.reduceEq, Int.reduceNeg, Int.reduceToNat, reduceIte, reduceCtorEq, Int.reduceBEq, Int.reduceBNe, Bool.true_beq, Bool.false_beq, Bool.true_bne, Bool.false_bne, Bool.not_true, Bool.not_false]
  intro b3 hb3 b4 hb4
  refine rangeO gG8_ok (pl := Tryd.pl48) Tryd.mix (Hc := [⟨b1, 0, .ro, [.slice (some ⟨b0, 0, none⟩) l.length c]⟩, ⟨b0, 0, .ro, byteV l⟩]) (Hm := [])
    (byteIter (ss := l) (b1 := b1) (b0 := b0) (c := c) (k1 := .ro) (k2 := .ro) (by omega) rfl (by simp [findE]) (by simp [findE, hne'])) rfl
    (X := Nat) (sumBH b3 b4)
    (fun k n => n = dataN (l.take k)) (fun _ _ => False) 0
    ?_ ?_ ?_ ?_ (by simp) (fun n => rfl) (fun x y e he => .inl ?_) ?_ (by kernel_rfl) (by kernel_rfl) (fun _ _ h => h.elim) ?_ ?_ (fun _ _ _ _ h => h.elim)
  · rfl
  · simp only [push_cast, Nat.reduceAdd, Nat.reduceSub, Nat.reduceMul, Nat.reduceLT, Nat.reduceLeDiff, Nat.reduceEqDiff, Nat.reduceMod, Nat.reduceDiv, Int.reduceAdd, Int.reduceSub, Int.reduceMul, Int.reduceLT, Int.reduceLE, Int.reduceEq, Int.reduceNeg, Int.reduceToNat, reduceIte, reduceCtorEq, Int.reduceBEq, Int.reduceBNe, Bool.true_beq, Bool.false_beq, Bool.true_bne, Bool.false_bne, Bool.not_true, Bool.not_false, sumBH, hb3, hb4, hne, hne']
  · rfl
  · rfl
  · unfold sumBH at he
    rcases List.mem_cons.1 he with rfl | he
    · trivial
    · rw [List.mem_singleton.1 he]; trivial
  · intro args ha
    obtain ⟨z, _, rfl⟩ := List.mem_map.1 ha
    rfl
  · rintro lo k n args hk hs
    obtain ⟨x, hj, rfl⟩ := Option.map_eq_some_iff.1 ((List.getElem?_map ..).symm.trans hk)
    obtain ⟨hk1, rfl⟩ := List.getElem?_eq_some_iff.1 hj
    have hst := dataN_take l hk1
    have hle := dataN_le (l.take (k + 1))
    have hlk : (l.take (k + 1)).length ≤ 1048576 := by rw [List.length_take]; omega
    have ec : (if ((l[k].toNat : Int) == 0) then (4 : Int) else 16) = ((costB l[k] : Nat) : Int) := by
      unfold costB
      by_cases h0 : l[k] = 0
      · rw [if_pos h0, h0]; rfl
      · have : ((l[k].toNat : Int) == 0) = false := beq_eq_false_iff_ne.2 fun h => h0 (UInt8.toNat_inj.1 (show l[k].toNat = 0 by omega))
        rw [this, if_neg h0]; rfl
    obtain ⟨x, hx⟩ : ∃ x, x = l[k].toNat := ⟨_, rfl⟩
    obtain ⟨cx, hcx⟩ : ∃ x, x = costB l[k] := ⟨_, rfl⟩
    rw [← hx, ← hcx] at ec
    rw [← hcx] at hst
    rw [← hx]
    subst hs
    obtain ⟨n, hnn⟩ : ∃ n, n = dataN (l.take k) := ⟨_, rfl⟩
    rw [← hnn] at hst ⊢
    generalize hRK : (roundK _ _ _ k : Exit → Tm → Hp → Prop) = RK
    simp only [push_cast, Nat.reduceAdd, Nat.reduceSub, Nat.reduceMul, Nat.reduceLT, Nat.reduceLeDiff, Nat.reduceEqDiff, Nat.reduceMod, Nat.reduceDiv, Int.reduceAdd, Int.reduceSub, Int.reduceMul, Int.reduceLT, Int.reduceLE, Int.reduceEq, Int.reduceNeg, Int.reduceToNat, reduceIte, reduceCtorEq, Int.reduceBEq, Int.reduceBNe, Bool.true_beq, Bool.false_beq, Bool.true_bne, Bool.false_bne, Bool.not_true, Bool.not_false, sumBH, hb3, hb4, ec, wrap_i64' (show -9223372036854775808 ≤ (n : Int) + (cx : Int) ∧ (n : Int) + (cx : Int) ≤ 9223372036854775807 by omega)]
    rw [← hRK]
    exact ⟨n + cx, hst.symm, subH_self _⟩
  · rintro D n hfD hs
    rw [List.length_map, List.take_length] at hs
    subst hs
    rw [← hR]
    simp only [push_cast, Nat.reduceAdd, Nat.reduceSub, Nat.reduceMul, Nat.reduceLT, Nat.reduceLeDiff, Nat.reduceEqDiff, Nat.reduceMod, Nat.reduceDiv, Int.reduceAdd, Int.reduceSub, Int.reduceMul, Int.reduceLT, Int.reduceLE, Int.reduceEq, Int.reduceNeg, Int.reduceToNat, reduceIte, reduceCtorEq, Int.reduceBEq, Int.reduceBNe, Bool.true_beq, Bool.false_beq, Bool.true_bne, Bool.false_bne, Bool.not_true, Bool.not_false, sumBH, List.nil_append] at hfD
    simp only [push_cast, Nat.reduceAdd, Nat.reduceSub, Nat.reduceMul, Nat.reduceLT, Nat.reduceLeDiff, Nat.reduceEqDiff, Nat.reduceMod, Nat.reduceDiv, Int.reduceAdd, Int.reduceSub, Int.reduceMul, Int.reduceLT, Int.reduceLE, Int.reduceEq, Int.reduceNeg, Int.reduceToNat, reduceIte, reduceCtorEq, Int.reduceBEq, Int.reduceBNe, Bool.true_beq, Bool.false_beq, Bool.true_bne, Bool.false_bne, Bool.not_true, Bool.not_false, sumBH, hb3, hb4, hfD]
noncomputable def gG9 : Gam := (addG 50 costG5 gG4)
attribute [push_cast] gG9
theorem gG9_ok : GamOk Tryd.prog gG9 := (addG_ok costG5_ok gG4_ok)
theorem gstart_ok (s : ByteArray) (create : Bool) : CallsV Tryd.prog 31 [.string s, .bool create] [] (Ret0 (.int .i64 (startI s.data.toList create))) := by
  obtain ⟨l, rfl⟩ := bs_of s
  rw [bs_data]
  have hE := startI_eq l create
  obtain ⟨R, hR⟩ : ∃ R, R = startI l create := ⟨_, rfl⟩
  rw [← hR] at hE ⊢
  obtain ⟨x, hx⟩ : ∃ x, x = l.take 1048576 := ⟨_, rfl⟩
  rw [← hx] at hE
  have hxl : x.length ≤ 1048576 := by rw [hx, List.length_take]; omega
  have hg : gmanyI (l.length : Int) = x.length := by rw [gmany_len, hx, List.length_take, Nat.min_comm]
  have m1 : x.length ≤ l.length := by rw [hx, List.length_take]; omega
  have hmt : List.take x.length l = x := by rw [hx, List.length_take, List.take_eq_take_iff]; omega
  have hd := dataN_le x
  refine callsO gG9_ok Tryd.mix Tryd.pl31 Tryd.func31 rfl Tryd.ntmps31 Tryd.results31 rfl (by first | rfl | assumption) (Nat.le_of_ble_eq_true rfl) (by kernel_rfl) ?_
  simp only [push_cast, Nat.reduceAdd, Nat.reduceSub, Nat.reduceMul, Nat.reduceLT, Nat.reduceLeDiff, Nat.reduceEqDiff, Nat.reduceMod, Nat.reduceDiv, Int.reduceAdd, Int.reduceSub, Int.reduceMul, Int.reduceLT, Int.reduceLE, Int.reduceEq, Int.reduceNeg, Int.reduceToNat, reduceIte, reduceCtorEq, Int.reduceBEq, Int.reduceBNe, Bool.true_beq, Bool.false_beq, Bool.true_bne, Bool.false_bne, Bool.not_true, Bool.not_false, bs_size, hg, m1, hmt, bs_data]
  intro b c hc
  refine (valuesB_ok _ _ _).use trivial ?_
  rintro v N ⟨b1, rfl, rfl⟩
  refine ⟨⟨trivial, trivial⟩, rfl, fun hf => ?_⟩
  simp only [push_cast, Nat.reduceAdd, Nat.reduceSub, Nat.reduceMul, Nat.reduceLT, Nat.reduceLeDiff, Nat.reduceEqDiff, Nat.reduceMod, Nat.reduceDiv, Int.reduceAdd, Int.reduceSub, Int.reduceMul, Int.reduceLT, Int.reduceLE, Int.reduceEq, Int.reduceNeg, Int.reduceToNat, reduceIte, reduceCtorEq, Int.reduceBEq, Int.reduceBNe, Bool.true_beq, Bool.false_beq, Bool.true_bne, Bool.false_bne, Bool.not_true, Bool.not_false] at hf
  simp only [push_cast, Nat.reduceAdd, Nat.reduceSub, Nat.reduceMul, Nat.reduceLT, Nat.reduceLeDiff, Nat.reduceEqDiff, Nat.reduceMod, Nat.reduceDiv, Int.reduceAdd, Int.reduceSub, Int.reduceMul, Int.reduceLT, Int.reduceLE, Int.reduceEq, Int.reduceNeg, Int.reduceToNat, reduceIte, reduceCtorEq, Int.reduceBEq, Int.reduceBNe, Bool.true_beq, Bool.false_beq, Bool.true_bne, Bool.false_bne, Bool.not_true, Bool.not_false, hf]
  have hne : b1 ≠ b := hf.1
  refine (sumB_ok x b1 b c hne hxl).pure ?_ ?_
  · simp only [push_cast, Nat.reduceAdd, Nat.reduceSub, Nat.reduceMul, Nat.reduceLT, Nat.reduceLeDiff, Nat.reduceEqDiff, Nat.reduceMod, Nat.reduceDiv, Int.reduceAdd, Int.reduceSub, Int.reduceMul, Int.reduceLT, Int.reduceLE, Int.reduceEq, Int.reduceNeg, Int.reduceToNat, reduceIte, reduceCtorEq, Int.reduceBEq, Int.reduceBNe, Bool.true_beq, Bool.false_beq, Bool.true_bne, Bool.false_bne, Bool.not_true, Bool.not_false, hf, byteV_len, show List.take x.length (byteV x) = byteV x from List.take_of_length_le (by rw [byteV_len]; exact Nat.le_refl _)]
  simp only [push_cast, Nat.reduceAdd, Nat.reduceSub, Nat.reduceMul, Nat.reduceLT, Nat.reduceLeDiff, Nat.reduceEqDiff, Nat.reduceMod, Nat.reduceDiv, Int.reduceAdd, Int.reduceSub, Int.reduceMul, Int.reduceLT, Int.reduceLE, Int.reduceEq, Int.reduceNeg, Int.reduceToNat, reduceIte, reduceCtorEq, Int.reduceBEq, Int.reduceBNe, Bool.true_beq, Bool.false_beq, Bool.true_bne, Bool.false_bne, Bool.not_true, Bool.not_false, wrap_i64' (show -9223372036854775808 ≤ 21000 + (dataN x : Int) ∧ 21000 + (dataN x : Int) ≤ 9223372036854775807 by omega)]
  cases create
  · rw [if_neg (by decide)] at hE
    have e : (R : Int) = 21000 + (dataN x : Int) := by omega
    simp only [push_cast, Nat.reduceAdd, Nat.reduceSub, Nat.reduceMul, Nat.reduceLT, Nat.reduceLeDiff, Nat.reduceEqDiff, Nat.reduceMod, Nat.reduceDiv, Int.reduceAdd, Int.reduceSub, Int.reduceMul, Int.reduceLT, Int.reduceLE, Int.reduceEq, Int.reduceNeg, Int.reduceToNat, reduceIte, reduceCtorEq, Int.reduceBEq, Int.reduceBNe, Bool.true_beq, Bool.false_beq, Bool.true_bne, Bool.false_bne, Bool.not_true, Bool.not_false, e]
  · rw [if_pos rfl] at hE
    obtain ⟨g, hgg⟩ : ∃ g, g = ginitI (l.length : Int) false := ⟨_, rfl⟩
    have hgl : g ≤ 262144 := by rw [hgg]; exact ginitI_le _ _
    rw [← hgg] at hE
    have e : 21000 + (dataN x : Int) + (32000 + (g : Int)) = (R : Int) := by omega
    simp only [push_cast, Nat.reduceAdd, Nat.reduceSub, Nat.reduceMul, Nat.reduceLT, Nat.reduceLeDiff, Nat.reduceEqDiff, Nat.reduceMod, Nat.reduceDiv, Int.reduceAdd, Int.reduceSub, Int.reduceMul, Int.reduceLT, Int.reduceLE, Int.reduceEq, Int.reduceNeg, Int.reduceToNat, reduceIte, reduceCtorEq, Int.reduceBEq, Int.reduceBNe, Bool.true_beq, Bool.false_beq, Bool.true_bne, Bool.false_bne, Bool.not_true, Bool.not_false, bs_size, ← hgg, wrap_i64' (show -9223372036854775808 ≤ 32000 + (g : Int) ∧ 32000 + (g : Int) ≤ 9223372036854775807 by omega), e, wrap_i64' (show -9223372036854775808 ≤ (R : Int) ∧ (R : Int) ≤ 9223372036854775807 by omega)]
noncomputable def gG10 : Gam := (addG 38 gmanyG gG4)
attribute [push_cast] gG10
theorem gG10_ok : GamOk Tryd.prog gG10 := (addG_ok rmanyG_ok gG4_ok)
theorem rstart_ok (s : ByteArray) (create : Bool) : CallsV Tryd.prog 32 [.string s, .bool create] [] (Ret0 (.int .i64 (startI s.data.toList create))) := by
  obtain ⟨l, rfl⟩ := bs_of s
  rw [bs_data]
  have hE := startI_eq l create
  obtain ⟨R, hR⟩ : ∃ R, R = startI l create := ⟨_, rfl⟩
  rw [← hR] at hE ⊢
  obtain ⟨x, hx⟩ : ∃ x, x = l.take 1048576 := ⟨_, rfl⟩
  rw [← hx] at hE
  have hxl : x.length ≤ 1048576 := by rw [hx, List.length_take]; omega
  have hg : gmanyI (l.length : Int) = x.length := by rw [gmany_len, hx, List.length_take, Nat.min_comm]
  have m1 : x.length ≤ l.length := by rw [hx, List.length_take]; omega
  have hd := dataN_le x
  refine callsO gG10_ok Tryd.mix Tryd.pl32 Tryd.func32 rfl Tryd.ntmps32 Tryd.results32 rfl (by first | rfl | assumption) (Nat.le_of_ble_eq_true rfl) (by kernel_rfl) ?_
  simp only [push_cast, Nat.reduceAdd, Nat.reduceSub, Nat.reduceMul, Nat.reduceLT, Nat.reduceLeDiff, Nat.reduceEqDiff, Nat.reduceMod, Nat.reduceDiv, Int.reduceAdd, Int.reduceSub, Int.reduceMul, Int.reduceLT, Int.reduceLE, Int.reduceEq, Int.reduceNeg, Int.reduceToNat, reduceIte, reduceCtorEq, Int.reduceBEq, Int.reduceBNe, Bool.true_beq, Bool.false_beq, Bool.true_bne, Bool.false_bne, Bool.not_true, Bool.not_false]
  refine loopO gG10_ok (pl := Tryd.pl32) Tryd.mix (X := Nat)
    (fun i => ([(0, .string (bs l)), (1, .bool create), (5, .int .i64 ((21000 + dataN (x.take i) : Nat) : Int)), (6, .int .i64 i)], []))
    (fun i => i ≤ x.length) (fun i => x.length - i) 0 ?_ ?_ (by kernel_rfl) ?_
  · exact Nat.zero_le _
  · simp only [push_cast, Nat.reduceAdd, Nat.reduceSub, Nat.reduceMul, Nat.reduceLT, Nat.reduceLeDiff, Nat.reduceEqDiff, Nat.reduceMod, Nat.reduceDiv, Int.reduceAdd, Int.reduceSub, Int.reduceMul, Int.reduceLT, Int.reduceLE, Int.reduceEq, Int.reduceNeg, Int.reduceToNat, reduceIte, reduceCtorEq, Int.reduceBEq, Int.reduceBNe, Bool.true_beq, Bool.false_beq, Bool.true_bne, Bool.false_bne, Bool.not_true, Bool.not_false]
    rfl
  · intro i hi
    dsimp only at hi ⊢
    rcases Nat.lt_or_ge i x.length with hlt | hge
    · have i2 : i < l.length := by omega
      have hat : x[i] = l[i] := by
        have h1 : x[i]? = l[i]? := by rw [hx, List.getElem?_take]; exact if_pos (by omega)
        rw [List.getElem?_eq_getElem hlt, List.getElem?_eq_getElem i2] at h1
        exact Option.some.inj h1
      have b0 : (bs l).data[i]? = some x[i] := by rw [hbs_idx i2, hat]
      have hst := dataN_take x hlt
      have hle := dataN_le (x.take i)
      have hlk : (x.take i).length ≤ 1048576 := by rw [List.length_take]; omega
      generalize dataN (x.take i) = n at *
      obtain ⟨n', hn'⟩ : ∃ n', n' = dataN (x.take (i + 1)) := ⟨_, rfl⟩
      rw [← hn'] at hst
      unfold costB at hst
      by_cases h0 : x[i] = 0
      · have e0 : ((x[i].toNat : Int) == 0) = true := by rw [h0]; rfl
        rw [if_pos h0] at hst
        have e : 21000 + (n : Int) + 4 = 21000 + (n' : Int) := by omega
        simp only [push_cast, Nat.reduceAdd, Nat.reduceSub, Nat.reduceMul, Nat.reduceLT, Nat.reduceLeDiff, Nat.reduceEqDiff, Nat.reduceMod, Nat.reduceDiv, Int.reduceAdd, Int.reduceSub, Int.reduceMul, Int.reduceLT, Int.reduceLE, Int.reduceEq, Int.reduceNeg, Int.reduceToNat, reduceIte, reduceCtorEq, Int.reduceBEq, Int.reduceBNe, Bool.true_beq, Bool.false_beq, Bool.true_bne, Bool.false_bne, Bool.not_true, Bool.not_false, bs_size, hg, hlt, i2, b0, e0, e, wrap_i64' (show -9223372036854775808 ≤ 21000 + (n' : Int) ∧ 21000 + (n' : Int) ≤ 9223372036854775807 by omega), wrap_i64' (show -9223372036854775808 ≤ (i : Int) + 1 ∧ (i : Int) + 1 ≤ 9223372036854775807 by omega)]
        exact ⟨i + 1, by omega, by omega, by rw [← hn']; exact ⟨rfl, rfl⟩⟩
      · have e0 : ((x[i].toNat : Int) == 0) = false := beq_eq_false_iff_ne.2 fun h => h0 (UInt8.toNat_inj.1 (show x[i].toNat = 0 by omega))
        rw [if_neg h0] at hst
        have e : 21000 + (n : Int) + 16 = 21000 + (n' : Int) := by omega
        simp only [push_cast, Nat.reduceAdd, Nat.reduceSub, Nat.reduceMul, Nat.reduceLT, Nat.reduceLeDiff, Nat.reduceEqDiff, Nat.reduceMod, Nat.reduceDiv, Int.reduceAdd, Int.reduceSub, Int.reduceMul, Int.reduceLT, Int.reduceLE, Int.reduceEq, Int.reduceNeg, Int.reduceToNat, reduceIte, reduceCtorEq, Int.reduceBEq, Int.reduceBNe, Bool.true_beq, Bool.false_beq, Bool.true_bne, Bool.false_bne, Bool.not_true, Bool.not_false, bs_size, hg, hlt, i2, b0, e0, e, wrap_i64' (show -9223372036854775808 ≤ 21000 + (n' : Int) ∧ 21000 + (n' : Int) ≤ 9223372036854775807 by omega), wrap_i64' (show -9223372036854775808 ≤ (i : Int) + 1 ∧ (i : Int) + 1 ≤ 9223372036854775807 by omega)]
        exact ⟨i + 1, by omega, by omega, by rw [← hn']; exact ⟨rfl, rfl⟩⟩
    · obtain rfl : i = x.length := by omega
      rw [List.take_length]
      cases create
      · rw [if_neg (by decide)] at hE
        have e : (R : Int) = 21000 + (dataN x : Int) := by omega
        simp only [push_cast, Nat.reduceAdd, Nat.reduceSub, Nat.reduceMul, Nat.reduceLT, Nat.reduceLeDiff, Nat.reduceEqDiff, Nat.reduceMod, Nat.reduceDiv, Int.reduceAdd, Int.reduceSub, Int.reduceMul, Int.reduceLT, Int.reduceLE, Int.reduceEq, Int.reduceNeg, Int.reduceToNat, reduceIte, reduceCtorEq, Int.reduceBEq, Int.reduceBNe, Bool.true_beq, Bool.false_beq, Bool.true_bne, Bool.false_bne, Bool.not_true, Bool.not_false, bs_size, hg, Nat.lt_irrefl, e]
      · rw [if_pos rfl] at hE
        obtain ⟨g, hgg⟩ : ∃ g, g = ginitI (l.length : Int) false := ⟨_, rfl⟩
        have hgl : g ≤ 262144 := by rw [hgg]; exact ginitI_le _ _
        rw [← hgg] at hE
        have e : 21000 + (dataN x : Int) + 32000 + (g : Int) = (R : Int) := by omega
        simp only [push_cast, Nat.reduceAdd, Nat.reduceSub, Nat.reduceMul, Nat.reduceLT, Nat.reduceLeDiff, Nat.reduceEqDiff, Nat.reduceMod, Nat.reduceDiv, Int.reduceAdd, Int.reduceSub, Int.reduceMul, Int.reduceLT, Int.reduceLE, Int.reduceEq, Int.reduceNeg, Int.reduceToNat, reduceIte, reduceCtorEq, Int.reduceBEq, Int.reduceBNe, Bool.true_beq, Bool.false_beq, Bool.true_bne, Bool.false_bne, Bool.not_true, Bool.not_false, bs_size, hg, Nat.lt_irrefl, ← hgg, wrap_i64' (show -9223372036854775808 ≤ 21000 + (dataN x : Int) + 32000 ∧ 21000 + (dataN x : Int) + 32000 ≤ 9223372036854775807 by omega), e, wrap_i64' (show -9223372036854775808 ≤ (R : Int) ∧ (R : Int) ≤ 9223372036854775807 by omega)]
theorem gstartG_ok (args : List Value) (v : Value) (h : startG args = some v) : CallsV Tryd.prog 31 args [] (Ret0 v) := by
  unfold startG at h
  split at h
  · cases h; exact gstart_ok _ _
  · cases h
theorem rstartG_ok (args : List Value) (v : Value) (h : startG args = some v) : CallsV Tryd.prog 32 args [] (Ret0 v) := by
  unfold startG at h
  split at h
  · cases h; exact rstart_ok _ _
  · cases h
end Go.Proofs.YtfioapldbajpmaaDoor
