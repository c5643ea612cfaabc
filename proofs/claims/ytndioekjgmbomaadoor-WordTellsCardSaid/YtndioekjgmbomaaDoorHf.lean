/- Hf: the document's Parse: written by wip/tools/refparse.py. -/
import Derived.Test.YtndioekjgmbomaaDoorHe
set_option linter.unusedSimpArgs false
set_option linter.unusedVariables false
namespace Go.Ev
/-- n numbers, told by a function -/
noncomputable def mapN : Nat → (Nat → Int) → List Int := hid fun n f => (List.range n).map f
theorem mapN_eq (n : Nat) (f : Nat → Int) : mapN n f = (List.range n).map f := by unfold mapN; rw [hid_eq]
theorem mapN_zlen (n : Nat) (f : Nat → Int) : (zs (mapN n f)).length = n := by rw [zs_len, mapN_eq, List.length_map, List.length_range]
theorem mapN_get (n : Nat) (f : Nat → Int) (j : Nat) : (zs (mapN n f))[j]? = if j < n then some (.int .i64 (f j)) else none := by
  unfold zs
  rw [mapN_eq, List.getElem?_map, List.getElem?_map]
  split
  · rename_i h1; rw [List.getElem?_range h1]; rfl
  · rename_i h1; rw [List.getElem?_eq_none (by simpa using h1)]; rfl
theorem mapN_at (n : Nat) (f : Nat → Int) {i : Nat} (h : i < n) : List.take 1 (List.drop i (zs (mapN n f))) = [.int .i64 (f i)] := by
  have hl : i < (zs (mapN n f)).length := by rw [mapN_zlen]; exact h
  have := mapN_get n f i
  rw [if_pos h, List.getElem?_eq_getElem hl] at this
  rw [List.drop_eq_getElem_cons hl, List.take_succ_cons, List.take_zero, Option.some.inj this]
theorem mapN_set (n : Nat) (f : Nat → Int) {i : Nat} (h : i < n) (v : Int) : List.take i (zs (mapN n f)) ++ .int .i64 v :: List.drop (i + 1) (zs (mapN n f)) = zs (mapN n (updF f i v)) := by
  have hl := mapN_zlen n f
  refine List.ext_getElem? fun j => ?_
  rw [mapN_get]
  have ht : (List.take i (zs (mapN n f))).length = i := by rw [List.length_take, hl]; omega
  rcases Nat.lt_trichotomy j i with h1 | rfl | h1
  · rw [List.getElem?_append_left (by omega), List.getElem?_take_of_lt h1, mapN_get, if_pos (by omega), if_pos (by omega)]
    unfold updF; rw [if_neg (by omega : ¬ j = i)]
  · rw [List.getElem?_append_right (by omega), ht, Nat.sub_self, List.getElem?_cons_zero, if_pos h]
    unfold updF; rw [if_pos rfl]
  · rw [List.getElem?_append_right (by omega), ht, show j - i = (j - i - 1) + 1 by omega, List.getElem?_cons_succ, List.getElem?_drop, mapN_get, show i + 1 + (j - i - 1) = j by omega]
    unfold updF; rw [if_neg (by omega : ¬ j = i)]
noncomputable def dgF (a : Nat) : Nat → Int := fun j => ((digN a j : Nat) : Int)
noncomputable def mixF (N a k : Nat) : Nat → Int := fun j => if j < k then ((digN N j : Nat) : Int) else ((digN a j : Nat) : Int)
theorem mapN_digs (m n : Nat) : digs m n = mapN n (dgF m) := by rw [mapN_eq]; rfl
theorem mixF_0 (N a : Nat) : mixF N a 0 = dgF a := rfl
theorem mixF_at (N a k : Nat) : mixF N a k k = ((digN a k : Nat) : Int) := by unfold mixF; rw [if_neg (Nat.lt_irrefl k)]
theorem mixF_step (N a k : Nat) : updF (mixF N a k) k ((digN N k : Nat) : Int) = mixF N a (k + 1) := by
  funext j
  unfold updF mixF
  by_cases h : j = k
  · rw [if_pos h, if_pos (by omega), h]
  · rw [if_neg h]
    by_cases h2 : j < k
    · rw [if_pos h2, if_pos (by omega)]
    · rw [if_neg h2, if_neg (by omega)]
theorem mapN_mix (n N a : Nat) : mapN n (mixF N a n) = mapN n (dgF N) := by
  rw [mapN_eq, mapN_eq]
  refine List.map_congr_left fun j hj => ?_
  unfold mixF dgF
  rw [if_pos (List.mem_range.1 hj)]
/-- what is carried into place k -/
noncomputable def cyN : Nat → Nat → Nat → Nat → Nat := hid fun a b d k => ((a % 256 ^ k) * b + d) / 256 ^ k
theorem cyN_eq (a b d k : Nat) : cyN a b d k = ((a % 256 ^ k) * b + d) / 256 ^ k := by unfold cyN; rw [hid_eq]
theorem cyN_0 (a b d : Nat) : cyN a b d 0 = d := by rw [cyN_eq]; simp [Nat.mod_one]
theorem cyN_lt {b d : Nat} (a k : Nat) (hd : d < b) : cyN a b d k < b := by
  rw [cyN_eq]
  have hp : 0 < 256 ^ k := Nat.pow_pos (by decide)
  rw [Nat.div_lt_iff_lt_mul hp]
  have hA := Nat.mod_lt a hp
  have : (a % 256 ^ k + 1) * b ≤ 256 ^ k * b := Nat.mul_le_mul_right b hA
  rw [Nat.add_mul, Nat.one_mul] at this
  rw [Nat.mul_comm b]
  omega
theorem cyN_t (a b d k : Nat) : cyN a b d k + digN a k * b = ((a % 256 ^ (k + 1)) * b + d) / 256 ^ k := by
  have hp : 0 < 256 ^ k := Nat.pow_pos (by decide)
  rw [cyN_eq, digN_eq, Nat.pow_succ, Nat.mod_mul, Nat.add_mul, Nat.mul_assoc, Nat.add_right_comm, Nat.mul_comm (256 ^ k), Nat.add_mul_div_right _ _ hp]
theorem cyN_dig (a b d k : Nat) : (cyN a b d k + digN a k * b) % 256 = digN (a * b + d) k := by
  have hp : 0 < 256 ^ k := Nat.pow_pos (by decide)
  rw [cyN_t, digN_eq]
  have e : a * b + d = ((a % 256 ^ (k + 1)) * b + d) + (a / 256 ^ (k + 1) * b * 256) * 256 ^ k := by
    have h := Nat.div_add_mod a (256 ^ (k + 1))
    conv => lhs; rw [← h]
    rw [Nat.add_mul, Nat.pow_succ]
    have : 256 ^ k * 256 * (a / (256 ^ k * 256)) * b = a / (256 ^ k * 256) * b * 256 * 256 ^ k := by ac_rfl
    omega
  rw [e, Nat.add_mul_div_right _ _ hp, Nat.add_mul_mod_self_right]
theorem cyN_next (a b d k : Nat) : (cyN a b d k + digN a k * b) / 256 = cyN a b d (k + 1) := by
  rw [cyN_t, Nat.div_div_eq_div_mul, ← Nat.pow_succ, cyN_eq]
theorem dig_pos {base k : Nat} {x : UInt8} (h : digV base x = some k) (hx : x ≠ 48) : 1 ≤ k := by
  rcases Nat.eq_zero_or_pos k with rfl | h0
  · exfalso
    unfold digV at h
    split at h
    · rename_i hh
      have h := Option.some.inj h
      exact hx (UInt8.toNat_inj.1 (show x.toNat = 48 by omega))
    · split at h
      · have h := Option.some.inj h; omega
      · cases h
  · exact h0
theorem parsB_long {base : Nat} (hb : base = 10 ∨ base = 16) {d : List UInt8} (h : 78 < d.length) : parsB base d = (W.zero, 3) := by
  by_cases hc : d = [] ∨ (d.head? = some 48 ∧ 1 < d.length)
  · unfold parsB; rw [if_pos hc]
  · refine parsB_big fun n hn => ?_
    cases d with
    | nil => exact absurd h (by decide)
    | cons x r =>
      have hx : x ≠ 48 := fun hx => hc (.inr ⟨by rw [hx]; rfl, by omega⟩)
      rw [valD_cons] at hn
      cases hk : digV base x with
      | none => rw [hk] at hn; cases hn
      | some k =>
        rw [hk] at hn
        have h1 := valD_low r _ _ hn
        have k1 := dig_pos hk hx
        have hr : 78 ≤ r.length := by have : (x :: r).length = r.length + 1 := rfl; omega
        have hp : 10 ^ 78 ≤ base ^ r.length := Nat.le_trans (Nat.pow_le_pow_left (by omega) 78) (Nat.pow_le_pow_right (by omega) hr)
        have h2 : 1 * base ^ r.length ≤ (0 * base + k) * base ^ r.length := Nat.mul_le_mul_right _ (by omega)
        have h3 : 2 ^ 256 ≤ 10 ^ 78 := by decide
        omega
theorem parsW_short {l : List UInt8} (h : ¬ (2 < l.length ∧ l.take 2 = [48, 120])) : parsW l = parsB 10 l := by
  rw [parsW_eq]
  by_cases h2 : l.take 2 = [48, 120]
  · rw [if_pos h2]
    have hl : l.length = 2 := by
      have := congrArg List.length h2
      rw [List.length_take] at this
      have : min 2 l.length = 2 := this
      have : ¬ 2 < l.length := fun h3 => h ⟨h3, h2⟩
      omega
    rw [List.take_of_length_le (by omega)] at h2
    rw [h2]; rfl
  · rw [if_neg h2]
theorem mapN_zero (n : Nat) : mapN n (dgF 0) = List.replicate n 0 := by
  rw [mapN_eq]
  unfold dgF
  refine List.ext_getElem? fun j => ?_
  rw [List.getElem?_map, List.getElem?_replicate]
  by_cases h : j < n
  · rw [List.getElem?_range h, if_pos h, Option.map_some, digN_eq, Nat.zero_div]; rfl
  · rw [List.getElem?_eq_none (by simpa using h), if_neg h]; rfl
theorem zs_rep (n : Nat) : zs (List.replicate n 0) = List.replicate n (Value.int .i64 0) := by unfold zs; rw [List.map_replicate]
theorem hrepV_rep1 (x : Value) : ∀ n, repV n [x] = List.replicate n x
  | 0 => rfl
  | n + 1 => by rw [List.replicate_succ, ← hrepV_rep1 x n]; rfl
/-- the digits from 32 on -/
theorem dig_high {n k : Nat} (h : n < 2 ^ 256) (hk : 32 ≤ k) : digN n k = 0 := by
  rw [digN_eq, Nat.div_eq_of_lt]
  exact Nat.lt_of_lt_of_le h (Nat.le_trans (by decide : 2 ^ 256 ≤ 256 ^ 32) (Nat.pow_le_pow_right (by decide) hk))
theorem dig_low {n : Nat} (h : ∀ k, 32 ≤ k → k < 40 → digN n k = 0) (hn : n < 256 ^ 40) : n < 2 ^ 256 := by
  have key : ∀ j, j ≤ 8 → n < 256 ^ (40 - j) := fun j => by
    induction j with
    | zero => intro _; exact hn
    | succ j ih =>
      intro hj
      have h1 := ih (by omega)
      have h2 := h (40 - (j + 1)) (by omega) (by omega)
      rw [digN_eq] at h2
      rw [show 40 - j = 40 - (j + 1) + 1 by omega, Nat.pow_succ] at h1
      have hp : 0 < 256 ^ (40 - (j + 1)) := Nat.pow_pos (by decide)
      have h3 : n / 256 ^ (40 - (j + 1)) < 256 := by rw [Nat.div_lt_iff_lt_mul hp, Nat.mul_comm]; exact h1
      rw [Nat.mod_eq_of_lt h3] at h2
      have h4 := Nat.div_add_mod n (256 ^ (40 - (j + 1)))
      have h5 := Nat.mod_lt n hp
      rw [h2, Nat.mul_zero] at h4
      omega
  exact Nat.lt_of_lt_of_le (key 8 (by decide)) (by decide)
end Go.Ev
namespace Go.Proofs.YtndioekjgmbomaaDoor
open Go Go.Ev Go.Proofs
set_option maxRecDepth 100000
set_option maxHeartbeats 4000000
theorem dgG_ok (args : List Value) (v : Value) (h : dgG args = some v) : CallsV Tryd.prog 50 args [] (Ret0 v) := by
  unfold dgG at h
  split at h
  · split at h
    · rename_i c b hh
      cases h
      rw [dgB_eq, decide_eq_true_eq] at hh
      have := refDigit (c.toNat.toUInt8) b.toNat (by omega)
      have e : (((c.toNat.toUInt8).toNat : Nat) : Int) = c := by
        rw [Nat.toUInt8_eq, UInt8.toNat_ofNat', Nat.mod_eq_of_lt (by omega)]; omega
      rw [e, show ((b.toNat : Nat) : Int) = b by omega, ← dgN_eq] at this
      exact this
    · cases h
  · cases h
noncomputable def gHh : Gam := (addG 50 dgG noG)
attribute [push_cast] gHh
theorem gHh_ok : GamOk Tryd.prog gHh := (addG_ok dgG_ok (noG_ok _))
def plF : Plans := fun i => if i = 1 then [(0, 9)] else if i = 6 then [(0, 9)] else if i = 9 then [(0, 9)] else Tryd.pl29 i
attribute [push_cast] plF
theorem refParse (b : ByteArray) (hb : b.size < 4611686018427387904) : CallsV Tryd.prog 29 [.string b] [] (Ret0 (.tuple #[(parseP b).1.v, .int .i64 (parseP b).2])) := by
  obtain ⟨l, rfl⟩ := bs_of b
  rw [bs_size] at hb
  unfold parseP
  rw [bs_data]
  obtain ⟨R, hR⟩ : ∃ R, R = parsW l := ⟨_, rfl⟩
  rw [← hR]
  have e1 : (bs []).toList = [] := bs_toList []
  have e0 : (bs [48, 120]).toList = [48, 120] := bs_toList _
  refine callsO gHh_ok Tryd.mix plF Tryd.func29 rfl Tryd.ntmps29 Tryd.results29 rfl (by first | rfl | assumption) (Nat.le_of_ble_eq_true rfl) (by kernel_rfl) ?_
  simp only [push_cast, Nat.reduceAdd, Nat.reduceSub, Nat.reduceMul, Nat.reduceLT, Nat.reduceLeDiff, Nat.reduceEqDiff, Nat.reduceMod, Nat.reduceDiv, Int.reduceAdd, Int.reduceSub, Int.reduceMul, Int.reduceLT, Int.reduceLE, Int.reduceEq, Int.reduceNeg, Int.reduceToNat, reduceIte, reduceCtorEq]
  intro b2
  refine regO gHh_ok ?_
  refine (fun rest => ?main : ((base : Nat) → (d : List UInt8) → (base = 10 ∨ base = 16) → d.length ≤ l.length → R = parsB base d → (T : Tm) → subT T [(2, .pointer (some ⟨b2, 0, none⟩)), (4, .int .i64 base), (5, .string (bs d))] → WpV Tryd.prog none 86 (.region 6 ?o false) ?K T [⟨b2, 0, .cel 24, [.int .u64 0, .int .u64 0, .int .u64 0, .int .u64 0]⟩]) → _) ?rest
  case main =>
    by_cases h2 : 2 < l.length
    · have c1 : (2 : Int) < (l.length : Int) := by omega
      have c2 : (2 : Int) ≤ (l.length : Int) := by omega
      have c3 : 2 ≤ l.length := by omega
      have c4 : List.take (l.length - 2) (List.drop 2 l) = List.drop 2 l := List.take_of_length_le (by rw [List.length_drop]; exact Nat.le_refl _)
      by_cases h3 : l.take 2 = [48, 120]
      · have c5 : (List.take 2 l == [48, 120]) = true := by rw [h3]; rfl
        simp only [push_cast, Nat.reduceAdd, Nat.reduceSub, Nat.reduceMul, Nat.reduceLT, Nat.reduceLeDiff, Nat.reduceEqDiff, Nat.reduceMod, Nat.reduceDiv, Int.reduceAdd, Int.reduceSub, Int.reduceMul, Int.reduceLT, Int.reduceLE, Int.reduceEq, Int.reduceNeg, Int.reduceToNat, reduceIte, reduceCtorEq, oxS, bs_mk, e0, c1, c2, c3, c4, c5]
        refine rest 16 (l.drop 2) (.inr rfl) (by rw [List.length_drop]; omega) (by rw [hR, parsW_eq, if_pos h3]) _ ?_
        simp only [push_cast, Nat.reduceAdd, Nat.reduceSub, Nat.reduceMul, Nat.reduceLT, Nat.reduceLeDiff, Nat.reduceEqDiff, Nat.reduceMod, Nat.reduceDiv, Int.reduceAdd, Int.reduceSub, Int.reduceMul, Int.reduceLT, Int.reduceLE, Int.reduceEq, Int.reduceNeg, Int.reduceToNat, reduceIte, reduceCtorEq]
      · have c5 : (List.take 2 l == [48, 120]) = false := by rw [beq_eq_false_iff_ne]; exact h3
        simp only [push_cast, Nat.reduceAdd, Nat.reduceSub, Nat.reduceMul, Nat.reduceLT, Nat.reduceLeDiff, Nat.reduceEqDiff, Nat.reduceMod, Nat.reduceDiv, Int.reduceAdd, Int.reduceSub, Int.reduceMul, Int.reduceLT, Int.reduceLE, Int.reduceEq, Int.reduceNeg, Int.reduceToNat, reduceIte, reduceCtorEq, oxS, bs_mk, e0, c1, c2, c3, c4, c5]
        refine rest 10 l (.inl rfl) (Nat.le_refl _) (by rw [hR, parsW_short (fun h => h3 h.2)]) _ ?_
        simp only [push_cast, Nat.reduceAdd, Nat.reduceSub, Nat.reduceMul, Nat.reduceLT, Nat.reduceLeDiff, Nat.reduceEqDiff, Nat.reduceMod, Nat.reduceDiv, Int.reduceAdd, Int.reduceSub, Int.reduceMul, Int.reduceLT, Int.reduceLE, Int.reduceEq, Int.reduceNeg, Int.reduceToNat, reduceIte, reduceCtorEq]
    · have c1 : ¬ (2 : Int) < (l.length : Int) := by omega
      simp only [push_cast, Nat.reduceAdd, Nat.reduceSub, Nat.reduceMul, Nat.reduceLT, Nat.reduceLeDiff, Nat.reduceEqDiff, Nat.reduceMod, Nat.reduceDiv, Int.reduceAdd, Int.reduceSub, Int.reduceMul, Int.reduceLT, Int.reduceLE, Int.reduceEq, Int.reduceNeg, Int.reduceToNat, reduceIte, reduceCtorEq, c1]
      refine rest 10 l (.inl rfl) (Nat.le_refl _) (by rw [hR, parsW_short (fun h => h2 h.1)]) _ ?_
      simp only [push_cast, Nat.reduceAdd, Nat.reduceSub, Nat.reduceMul, Nat.reduceLT, Nat.reduceLeDiff, Nat.reduceEqDiff, Nat.reduceMod, Nat.reduceDiv, Int.reduceAdd, Int.reduceSub, Int.reduceMul, Int.reduceLT, Int.reduceLE, Int.reduceEq, Int.reduceNeg, Int.reduceToNat, reduceIte, reduceCtorEq]
  case rest =>
    intro base d hb10 hdl hpars T hT
    refine WpV.sub (s := (_, [⟨b2, 0, .cel 24, [.int .u64 0, .int .u64 0, .int .u64 0, .int .u64 0]⟩])) ⟨hT, subH_self _, rfl⟩ (regO gHh_ok ?_)
    by_cases hc : d = [] ∨ (d.head? = some 48 ∧ 1 < d.length)
    · have hR3 : R = (W.zero, 3) := by rw [hpars]; unfold parsB; rw [if_pos hc]
      cases d with
      | nil =>
        have e2 : (([] : List UInt8) == []) = true := rfl
        simp only [push_cast, Nat.reduceAdd, Nat.reduceSub, Nat.reduceMul, Nat.reduceLT, Nat.reduceLeDiff, Nat.reduceEqDiff, Nat.reduceMod, Nat.reduceDiv, Int.reduceAdd, Int.reduceSub, Int.reduceMul, Int.reduceLT, Int.reduceLE, Int.reduceEq, Int.reduceNeg, Int.reduceToNat, reduceIte, reduceCtorEq, bs_mk, e1, e2, hR3, wz_agg]
        done
      | cons x r =>
        rcases hc with h | ⟨h1, h2⟩
        · cases h
        obtain rfl := Option.some.inj h1
        obtain ⟨z, hz⟩ : ∃ z, z = 48 :: r := ⟨_, rfl⟩
        rw [← hz] at h2 ⊢
        have e2 : (z == []) = false := by rw [hz]; rfl
        have e3 : (bs z).data[0]? = some 48 := by rw [hbs_idx (by omega)]; subst hz; rfl
        have e4 : (1 : Int) < (z.length : Int) := by omega
        have e5 : (0 : Int) < (z.length : Int) := by omega
        have e6 : ((48 : UInt8).toNat : Int) = 48 := rfl
        by_cases h78 : (78 : Int) < (z.length : Int)
        · simp only [push_cast, Nat.reduceAdd, Nat.reduceSub, Nat.reduceMul, Nat.reduceLT, Nat.reduceLeDiff, Nat.reduceEqDiff, Nat.reduceMod, Nat.reduceDiv, Int.reduceAdd, Int.reduceSub, Int.reduceMul, Int.reduceLT, Int.reduceLE, Int.reduceEq, Int.reduceNeg, Int.reduceToNat, reduceIte, reduceCtorEq, bs_mk, e1, e2, e3, e4, e5, e6, h78, hR3, wz_agg]
          done
        · simp only [push_cast, Nat.reduceAdd, Nat.reduceSub, Nat.reduceMul, Nat.reduceLT, Nat.reduceLeDiff, Nat.reduceEqDiff, Nat.reduceMod, Nat.reduceDiv, Int.reduceAdd, Int.reduceSub, Int.reduceMul, Int.reduceLT, Int.reduceLE, Int.reduceEq, Int.reduceNeg, Int.reduceToNat, reduceIte, reduceCtorEq, bs_mk, e1, e2, e3, e4, e5, e6, h78, hR3, wz_agg]
          done
    · obtain ⟨x, r, hxr⟩ : ∃ x r, d = x :: r := by
        cases d with
        | nil => exact absurd (.inl rfl) hc
        | cons x r => exact ⟨x, r, rfl⟩
      have hl0 : 0 < d.length := by rw [hxr]; show 0 < r.length + 1; omega
      have e2 : (d == []) = false := by rw [hxr]; rfl
      have e3 : (bs d).data[0]? = some x := by rw [hbs_idx hl0]; subst hxr; rfl
      have e5 : (0 : Int) < (d.length : Int) := by omega
      by_cases h78 : (78 : Int) < (d.length : Int)
      · have hR3 : R = (W.zero, 3) := by rw [hpars]; exact parsB_long hb10 (by omega)
        simp only [push_cast, Nat.reduceAdd, Nat.reduceSub, Nat.reduceMul, Nat.reduceLT, Nat.reduceLeDiff, Nat.reduceEqDiff, Nat.reduceMod, Nat.reduceDiv, Int.reduceAdd, Int.reduceSub, Int.reduceMul, Int.reduceLT, Int.reduceLE, Int.reduceEq, Int.reduceNeg, Int.reduceToNat, reduceIte, reduceCtorEq, bs_mk, e1, e2, h78, hR3, wz_agg]
        done
      have h78n : d.length ≤ 78 := by omega
      refine (fun rest2 => ?main2 : ((bn : Nat) → ¬ bn = b2 → ¬ b2 = bn → (T : Tm) → subT T [(2, .pointer (some ⟨b2, 0, none⟩)), (4, .int .i64 base), (5, .string (bs d)), (6, .slice (some ⟨bn, 0, none⟩) 40 40)] → WpV Tryd.prog none 86 (.region 9 ?o2 false) ?K2 T [⟨bn, 0, .vec 3 1 40, repV 40 [.int .i64 0]⟩, ⟨b2, 0, .cel 24, [.int .u64 0, .int .u64 0, .int .u64 0, .int .u64 0]⟩]) → _) ?rest2
      case main2 =>
        by_cases hx : x = 48
        · have e7 : ((x.toNat : Int) == 48) = true := by rw [hx]; rfl
          have e8 : ¬ (1 : Int) < (d.length : Int) := by
            intro h
            refine hc (.inr ⟨?_, by omega⟩)
            rw [hxr, hx]; rfl
          simp only [push_cast, Nat.reduceAdd, Nat.reduceSub, Nat.reduceMul, Nat.reduceLT, Nat.reduceLeDiff, Nat.reduceEqDiff, Nat.reduceMod, Nat.reduceDiv, Int.reduceAdd, Int.reduceSub, Int.reduceMul, Int.reduceLT, Int.reduceLE, Int.reduceEq, Int.reduceNeg, Int.reduceToNat, reduceIte, reduceCtorEq, bs_mk, e1, e2, e3, e5, e7, e8, h78]
          refine ⟨by unfold two47; decide, fun bn hbn => ?_⟩
          refine rest2 bn hbn.1 hbn.2 _ ?_
          simp only [push_cast, Nat.reduceAdd, Nat.reduceSub, Nat.reduceMul, Nat.reduceLT, Nat.reduceLeDiff, Nat.reduceEqDiff, Nat.reduceMod, Nat.reduceDiv, Int.reduceAdd, Int.reduceSub, Int.reduceMul, Int.reduceLT, Int.reduceLE, Int.reduceEq, Int.reduceNeg, Int.reduceToNat, reduceIte, reduceCtorEq]
        · have e7 : ((x.toNat : Int) == 48) = false := beq_eq_false_iff_ne.2 fun h => hx (UInt8.toNat_inj.1 (show x.toNat = 48 by omega))
          simp only [push_cast, Nat.reduceAdd, Nat.reduceSub, Nat.reduceMul, Nat.reduceLT, Nat.reduceLeDiff, Nat.reduceEqDiff, Nat.reduceMod, Nat.reduceDiv, Int.reduceAdd, Int.reduceSub, Int.reduceMul, Int.reduceLT, Int.reduceLE, Int.reduceEq, Int.reduceNeg, Int.reduceToNat, reduceIte, reduceCtorEq, bs_mk, e1, e2, e3, e5, e7, h78]
          refine ⟨by unfold two47; decide, fun bn hbn => ?_⟩
          refine rest2 bn hbn.1 hbn.2 _ ?_
          simp only [push_cast, Nat.reduceAdd, Nat.reduceSub, Nat.reduceMul, Nat.reduceLT, Nat.reduceLeDiff, Nat.reduceEqDiff, Nat.reduceMod, Nat.reduceDiv, Int.reduceAdd, Int.reduceSub, Int.reduceMul, Int.reduceLT, Int.reduceLE, Int.reduceEq, Int.reduceNeg, Int.reduceToNat, reduceIte, reduceCtorEq]
      case rest2 =>
        intro bn n1 n2 T hT
        have hz0 : repV 40 [.int .i64 0] = zs (mapN 40 (dgF 0)) := by rw [mapN_zero, zs_rep, hrepV_rep1]
        rw [hz0]
        refine WpV.sub (s := (_, [⟨bn, 0, .vec 3 1 40, zs (mapN 40 (dgF 0))⟩, ⟨b2, 0, .cel 24, [.int .u64 0, .int .u64 0, .int .u64 0, .int .u64 0]⟩])) ⟨hT, subH_self _, rfl⟩ (regO gHh_ok ?_)
        simp only [push_cast, Nat.reduceAdd, Nat.reduceSub, Nat.reduceMul, Nat.reduceLT, Nat.reduceLeDiff, Nat.reduceEqDiff, Nat.reduceMod, Nat.reduceDiv, Int.reduceAdd, Int.reduceSub, Int.reduceMul, Int.reduceLT, Int.reduceLE, Int.reduceEq, Int.reduceNeg, Int.reduceToNat, reduceIte, reduceCtorEq]
        refine loopO gHh_ok (pl := plF) Tryd.mix (X := Nat × Nat)
          (fun s => ([(2, .pointer (some ⟨b2, 0, none⟩)), (4, .int .i64 base), (5, .string (bs d)), (6, .slice (some ⟨bn, 0, none⟩) 40 40), (7, .int .i64 s.1)], [⟨bn, 0, .vec 3 1 40, zs (mapN 40 (dgF s.2))⟩, ⟨b2, 0, .cel 24, [.int .u64 0, .int .u64 0, .int .u64 0, .int .u64 0]⟩]))
          (fun s => s.1 ≤ d.length ∧ valD base (d.take s.1) 0 = some s.2) (fun s => d.length - s.1) (0, 0) ?_ ?_ (by kernel_rfl) ?_
        · exact ⟨Nat.zero_le _, rfl⟩
        · simp only [push_cast, Nat.reduceAdd, Nat.reduceSub, Nat.reduceMul, Nat.reduceLT, Nat.reduceLeDiff, Nat.reduceEqDiff, Nat.reduceMod, Nat.reduceDiv, Int.reduceAdd, Int.reduceSub, Int.reduceMul, Int.reduceLT, Int.reduceLE, Int.reduceEq, Int.reduceNeg, Int.reduceToNat, reduceIte, reduceCtorEq, n1, n2]
        · rintro ⟨i, a⟩ ⟨hi, hv⟩
          dsimp only at hi hv ⊢
          have hml := fun g => mapN_zlen 40 g
          rcases Nat.lt_or_ge i d.length with hlt | hge
          · have c1 : (i : Int) < (d.length : Int) := by omega
            have c2 : (bs d).data[i]? = some d[i] := hbs_idx hlt
            have c3 : dgB ((d[i]).toNat : Int) (base : Int) = true := by
              have := (d[i]).toNat_lt
              rw [dgB_eq, decide_eq_true_eq]; omega
            have c4 : dgN ((d[i]).toNat : Int) (base : Int) = digI base d[i] := by
              rw [dgN_eq]
              show digI base ((d[i]).toNat).toUInt8 = _
              rw [toU8_toNat]
            cases hk : digV base d[i] with
            | none =>
              have hbad : R = (W.zero, 3) := by rw [hpars]; exact parsB_bad (by rw [valD_step hlt hv, hk]; rfl)
              have c5 : digI base d[i] = -1 := by unfold digI; rw [hk]
              simp only [push_cast, Nat.reduceAdd, Nat.reduceSub, Nat.reduceMul, Nat.reduceLT, Nat.reduceLeDiff, Nat.reduceEqDiff, Nat.reduceMod, Nat.reduceDiv, Int.reduceAdd, Int.reduceSub, Int.reduceMul, Int.reduceLT, Int.reduceLE, Int.reduceEq, Int.reduceNeg, Int.reduceToNat, reduceIte, reduceCtorEq, n1, n2, c1, c2, c3, c4, c5, hlt, hbad, wz_agg]
              done
            | some k =>
              have hk1 := digV_lt hb10 hk
              have c5 : digI base d[i] = (k : Int) := by unfold digI; rw [hk]
              have c6 : ¬ (k : Int) < 0 := by omega
              simp only [push_cast, Nat.reduceAdd, Nat.reduceSub, Nat.reduceMul, Nat.reduceLT, Nat.reduceLeDiff, Nat.reduceEqDiff, Nat.reduceMod, Nat.reduceDiv, Int.reduceAdd, Int.reduceSub, Int.reduceMul, Int.reduceLT, Int.reduceLE, Int.reduceEq, Int.reduceNeg, Int.reduceToNat, reduceIte, reduceCtorEq, n1, n2, c1, c2, c3, c4, c5, c6, hlt]
              refine loopO gHh_ok (pl := plF) Tryd.mix (X := Nat)
                (fun q => ([(2, .pointer (some ⟨b2, 0, none⟩)), (4, .int .i64 base), (5, .string (bs d)), (6, .slice (some ⟨bn, 0, none⟩) 40 40), (7, .int .i64 i), (8, .int .i64 (cyN a base k q : Nat)), (9, .int .i64 q)], [⟨bn, 0, .vec 3 1 40, zs (mapN 40 (mixF (a * base + k) a q))⟩, ⟨b2, 0, .cel 24, [.int .u64 0, .int .u64 0, .int .u64 0, .int .u64 0]⟩]))
                (fun q => q ≤ 40) (fun q => 40 - q) 0 ?_ ?_ (by kernel_rfl) ?_
              · exact Nat.zero_le _
              · rw [mixF_0, cyN_0]
                simp only [push_cast, Nat.reduceAdd, Nat.reduceSub, Nat.reduceMul, Nat.reduceLT, Nat.reduceLeDiff, Nat.reduceEqDiff, Nat.reduceMod, Nat.reduceDiv, Int.reduceAdd, Int.reduceSub, Int.reduceMul, Int.reduceLT, Int.reduceLE, Int.reduceEq, Int.reduceNeg, Int.reduceToNat, reduceIte, reduceCtorEq, n1, n2]
              · intro q hq
                dsimp only at hq ⊢
                rcases Nat.lt_or_ge q 40 with hq1 | hq1
                · have q1 : (q : Int) < 40 := by omega
                  have q2 : q ≤ 39 := by omega
                  have hat := mapN_at 40 (mixF (a * base + k) a q) hq1
                  rw [mixF_at] at hat
                  have hset := mapN_set 40 (mixF (a * base + k) a q) hq1 ((digN (a * base + k) q : Nat) : Int)
                  rw [mixF_step] at hset
                  have hcl := cyN_lt a q hk1
                  have hdl := digN_lt a q
                  have hd := cyN_dig a base k q
                  have hn := cyN_next a base k q
                  obtain ⟨L, hL⟩ : ∃ L, L = zs (mapN 40 (mixF (a * base + k) a q)) := ⟨_, rfl⟩
                  have hLl : L.length = 40 := by rw [hL]; exact hml _
                  rw [← hL] at hat hset
                  rw [← hL]
                  obtain ⟨L', hL'⟩ : ∃ L, L = zs (mapN 40 (mixF (a * base + k) a (q + 1))) := ⟨_, rfl⟩
                  rw [← hL'] at hset
                  obtain ⟨cy, hcy⟩ : ∃ c, c = cyN a base k q := ⟨_, rfl⟩
                  obtain ⟨cy', hcy'⟩ : ∃ c, c = cyN a base k (q + 1) := ⟨_, rfl⟩
                  obtain ⟨dg, hdg⟩ : ∃ c, c = digN a q := ⟨_, rfl⟩
                  obtain ⟨dg', hdg'⟩ : ∃ c, c = digN (a * base + k) q := ⟨_, rfl⟩
                  rw [← hcy] at hcl hd hn
                  rw [← hcy'] at hn
                  rw [← hdg] at hat hdl hd hn
                  rw [← hdg'] at hd hset
                  rw [← hcy]
                  obtain ⟨m, hm⟩ : ∃ m, m = dg * base := ⟨_, rfl⟩
                  obtain ⟨t, ht⟩ : ∃ t, t = cy + m := ⟨_, rfl⟩
                  rw [← hm, ← ht] at hd hn
                  have m1 : dg * base ≤ 255 * 16 := Nat.mul_le_mul (by omega) (by omega)
                  have em : (dg : Int) * (base : Int) = (m : Int) := by rw [hm, Int.natCast_mul]
                  have et : (cy : Int) + (m : Int) = (t : Int) := by omega
                  have t1 : (t : Int).tmod 256 = (dg' : Int) := by rw [← hd]; rfl
                  have t2 : (t : Int).tdiv 256 = (cy' : Int) := by rw [← hn]; rfl
                  simp only [push_cast, Nat.reduceAdd, Nat.reduceSub, Nat.reduceMul, Nat.reduceLT, Nat.reduceLeDiff, Nat.reduceEqDiff, Nat.reduceMod, Nat.reduceDiv, Int.reduceAdd, Int.reduceSub, Int.reduceMul, Int.reduceLT, Int.reduceLE, Int.reduceEq, Int.reduceNeg, Int.reduceToNat, reduceIte, reduceCtorEq, n1, n2, q1, q2, hat, hset, hLl, em, et, t1, t2, wrap_i64' (show -9223372036854775808 ≤ (m : Int) ∧ (m : Int) ≤ 9223372036854775807 by omega), wrap_i64' (show -9223372036854775808 ≤ (t : Int) ∧ (t : Int) ≤ 9223372036854775807 by omega), wrap_i64' (show -9223372036854775808 ≤ (dg' : Int) ∧ (dg' : Int) ≤ 9223372036854775807 by omega), wrap_i64' (show -9223372036854775808 ≤ (cy' : Int) ∧ (cy' : Int) ≤ 9223372036854775807 by omega), wrap_i64' (show -9223372036854775808 ≤ (q : Int) + 1 ∧ (q : Int) + 1 ≤ 9223372036854775807 by omega)]
                  exact ⟨q + 1, by omega, by omega, ⟨by rw [hcy'], rfl⟩, by rw [hL']⟩
                · obtain rfl : q = 40 := by omega
                  rw [mapN_mix]
                  simp only [push_cast, Nat.reduceAdd, Nat.reduceSub, Nat.reduceMul, Nat.reduceLT, Nat.reduceLeDiff, Nat.reduceEqDiff, Nat.reduceMod, Nat.reduceDiv, Int.reduceAdd, Int.reduceSub, Int.reduceMul, Int.reduceLT, Int.reduceLE, Int.reduceEq, Int.reduceNeg, Int.reduceToNat, reduceIte, reduceCtorEq, n1, n2, wrap_i64' (show -9223372036854775808 ≤ (i : Int) + 1 ∧ (i : Int) + 1 ≤ 9223372036854775807 by omega)]
                  exact ⟨(i + 1, a * base + k), ⟨by dsimp only; omega, by dsimp only; exact valD_next hlt hv hk⟩, by dsimp only; omega, rfl, rfl⟩
          · obtain rfl : i = d.length := by omega
            rw [List.take_length] at hv
            have ha40 : a < 256 ^ 40 := by
              have h1 := valD_lt hb10 _ _ _ hv
              rw [Nat.zero_add, Nat.one_mul] at h1
              have h2 : base ^ d.length ≤ 16 ^ 78 := Nat.le_trans (Nat.pow_le_pow_left (by omega) _) (Nat.pow_le_pow_right (by decide) h78n)
              have h3 : 16 ^ 78 < 256 ^ 40 := by decide
              omega
            simp only [push_cast, Nat.reduceAdd, Nat.reduceSub, Nat.reduceMul, Nat.reduceLT, Nat.reduceLeDiff, Nat.reduceEqDiff, Nat.reduceMod, Nat.reduceDiv, Int.reduceAdd, Int.reduceSub, Int.reduceMul, Int.reduceLT, Int.reduceLE, Int.reduceEq, Int.reduceNeg, Int.reduceToNat, reduceIte, reduceCtorEq, n1, n2, Nat.lt_irrefl]
            refine loopO gHh_ok (pl := plF) Tryd.mix (X := Nat)
              (fun q => ([(2, .pointer (some ⟨b2, 0, none⟩)), (6, .slice (some ⟨bn, 0, none⟩) 40 40), (10, .int .i64 q)], [⟨bn, 0, .vec 3 1 40, zs (mapN 40 (dgF a))⟩, ⟨b2, 0, .cel 24, [.int .u64 0, .int .u64 0, .int .u64 0, .int .u64 0]⟩]))
              (fun q => 32 ≤ q ∧ q ≤ 40 ∧ ∀ j, 32 ≤ j → j < q → digN a j = 0) (fun q => 40 - q) 32 ?_ ?_ (by kernel_rfl) ?_
            · exact ⟨Nat.le_refl _, by decide, fun j h1 h2 => by omega⟩
            · simp only [push_cast, Nat.reduceAdd, Nat.reduceSub, Nat.reduceMul, Nat.reduceLT, Nat.reduceLeDiff, Nat.reduceEqDiff, Nat.reduceMod, Nat.reduceDiv, Int.reduceAdd, Int.reduceSub, Int.reduceMul, Int.reduceLT, Int.reduceLE, Int.reduceEq, Int.reduceNeg, Int.reduceToNat, reduceIte, reduceCtorEq, n1, n2]
            · rintro q ⟨hq0, hq, hqz⟩
              dsimp only at hq0 hq hqz ⊢
              rcases Nat.lt_or_ge q 40 with hq1 | hq1
              · have q1 : (q : Int) < 40 := by omega
                have q2 : q ≤ 39 := by omega
                have hat : List.take 1 (List.drop q (zs (mapN 40 (dgF a)))) = [.int .i64 ((digN a q : Nat) : Int)] := mapN_at 40 (dgF a) hq1
                obtain ⟨L, hL⟩ : ∃ L, L = zs (mapN 40 (dgF a)) := ⟨_, rfl⟩
                have hLl : L.length = 40 := by rw [hL]; exact hml _
                rw [← hL] at hat ⊢
                by_cases hdz : digN a q = 0
                · rw [hdz] at hat
                  simp only [push_cast, Nat.reduceAdd, Nat.reduceSub, Nat.reduceMul, Nat.reduceLT, Nat.reduceLeDiff, Nat.reduceEqDiff, Nat.reduceMod, Nat.reduceDiv, Int.reduceAdd, Int.reduceSub, Int.reduceMul, Int.reduceLT, Int.reduceLE, Int.reduceEq, Int.reduceNeg, Int.reduceToNat, reduceIte, reduceCtorEq, n1, n2, q1, q2, hat, hLl, wrap_i64' (show -9223372036854775808 ≤ (q : Int) + 1 ∧ (q : Int) + 1 ≤ 9223372036854775807 by omega)]
                  exact ⟨q + 1, ⟨by omega, by omega, fun j h1 h2 => by
                    rcases Nat.lt_or_ge j q with h | h
                    · exact hqz j h1 h
                    · rw [show j = q by omega]; exact hdz⟩, by omega, rfl⟩
                · have hbig : R = (W.zero, 3) := by
                    rw [hpars]
                    refine parsB_big fun n hn => ?_
                    rw [hv] at hn
                    obtain rfl := Option.some.inj hn
                    rcases Nat.lt_or_ge a (2 ^ 256) with h | h
                    · exact absurd (dig_high h hq0) hdz
                    · exact h
                  obtain ⟨dg, hdg⟩ : ∃ c, c = digN a q := ⟨_, rfl⟩
                  rw [← hdg] at hat hdz
                  have hne : ((dg : Int) != 0) = true := by rw [bne_iff_ne]; omega
                  simp only [push_cast, Nat.reduceAdd, Nat.reduceSub, Nat.reduceMul, Nat.reduceLT, Nat.reduceLeDiff, Nat.reduceEqDiff, Nat.reduceMod, Nat.reduceDiv, Int.reduceAdd, Int.reduceSub, Int.reduceMul, Int.reduceLT, Int.reduceLE, Int.reduceEq, Int.reduceNeg, Int.reduceToNat, reduceIte, reduceCtorEq, n1, n2, q1, q2, hat, hLl, hne, hbig, wz_agg]
                  done
              · obtain rfl : q = 40 := by omega
                have hfit : a < 2 ^ 256 := dig_low hqz ha40
                have hfin : R = (W.of a, 0) := by rw [hpars, parsB_ok hc hv hfit]
                have hlz : (zs (digs a 40)).length = 40 := by rw [zs_len, digs_len]
                have htk : List.take 40 (zs (digs a 40)) = zs (digs a 40) := List.take_of_length_le (by rw [hlz]; exact Nat.le_refl _)
                rw [← mapN_digs]
                simp only [push_cast, Nat.reduceAdd, Nat.reduceSub, Nat.reduceMul, Nat.reduceLT, Nat.reduceLeDiff, Nat.reduceEqDiff, Nat.reduceMod, Nat.reduceDiv, Int.reduceAdd, Int.reduceSub, Int.reduceMul, Int.reduceLT, Int.reduceLE, Int.reduceEq, Int.reduceNeg, Int.reduceToNat, reduceIte, reduceCtorEq, n1, n2]
                refine (fromDigits_ok a 40 bn 40 (by decide) (.inl (by decide))).pure ?_ ?_
                · simp only [push_cast, Nat.reduceAdd, Nat.reduceSub, Nat.reduceMul, Nat.reduceLT, Nat.reduceLeDiff, Nat.reduceEqDiff, Nat.reduceMod, Nat.reduceDiv, Int.reduceAdd, Int.reduceSub, Int.reduceMul, Int.reduceLT, Int.reduceLE, Int.reduceEq, Int.reduceNeg, Int.reduceToNat, reduceIte, reduceCtorEq, n1, n2, hlz, htk]
                · simp only [push_cast, Nat.reduceAdd, Nat.reduceSub, Nat.reduceMul, Nat.reduceLT, Nat.reduceLeDiff, Nat.reduceEqDiff, Nat.reduceMod, Nat.reduceDiv, Int.reduceAdd, Int.reduceSub, Int.reduceMul, Int.reduceLT, Int.reduceLE, Int.reduceEq, Int.reduceNeg, Int.reduceToNat, reduceIte, reduceCtorEq, n1, n2, hfin]
                  done
theorem refParseG (args : List Value) (v : Value) (h : parseG args = some v) : CallsV Tryd.prog 29 args [] (Ret0 v) := by
  unfold parseG at h
  split at h
  · split at h
    · rename_i b hb
      cases h
      rw [pzB_eq, decide_eq_true_eq] at hb
      exact refParse b hb
    · cases h
  · cases h
end Go.Proofs.YtndioekjgmbomaaDoor

