/- Texts of this claim, merged by program: Oa Nb Ta Tb Tc Td Nc Nd Ne. -/
import Derived.Test.YtolmipnaheifcaaDoorZeAg
import Derived.Test.YtolmipnaheifcaaDoorZeAf
import Derived.Test.YtolmipnaheifcaaDoorZeAd
set_option linter.unusedSimpArgs false
set_option linter.unusedVariables false
namespace Go.Ev
inductive Rd (α : Type) where
  | bad (e p : Nat)
  | ok (x : α) (a m : Nat)
def numN (l : List UInt8) : Nat := beN l.reverse
def sizeD (s : List UInt8) (k e a : Nat) : Rd Nat :=
  if (s.getD a 0).toNat - k ≤ 55 then (if e - (a + 1) < (s.getD a 0).toNat - k then .bad 10 a else .ok ((s.getD a 0).toNat - k) (a + 1) 0)
  else if e - (a + 1) < (s.getD a 0).toNat - k - 55 then .bad 10 a
  else if s.getD (a + 1) 0 = 0 ∨ numN ((s.drop (a + 1)).take ((s.getD a 0).toNat - k - 55)) ≤ 55 then .bad 11 (a + 1)
  else if e - (a + 1 + ((s.getD a 0).toNat - k - 55)) < numN ((s.drop (a + 1)).take ((s.getD a 0).toNat - k - 55)) then .bad 10 a
  else .ok (numN ((s.drop (a + 1)).take ((s.getD a 0).toNat - k - 55))) (a + 1 + ((s.getD a 0).toNat - k - 55)) 0
def listD (f : Nat → Nat → Rd It) (e : Nat) : Nat → Nat → Nat → List It → Rd (List It)
  | 0, a, m, l => .ok l a m
  | k + 1, a, m, l => if a < e then (match f a m with
    | .bad x p => .bad x p
    | .ok y a' m' => listD f e k a' m' (l ++ [y])) else .ok l a m
def textD (s : List UInt8) (a b n m : Nat) : Rd It :=
  if n = 1 ∧ (s.getD b 0).toNat < 128 then .bad 11 a else .ok (.mk false ((s.drop b).take n) []) (b + n) m
def packD : Rd (List It) → Rd It
  | .bad x p => .bad x p
  | .ok l a m => .ok (.mk true [] l) a m
def stepD (s : List UInt8) (f : Nat → Nat → Nat → Rd It) (e a m : Nat) : Rd It :=
  if 5000 ≤ m then .bad 2 a
  else if e ≤ a then .bad 10 a
  else if (s.getD a 0).toNat < 128 then .ok (.mk false [s.getD a 0] []) (a + 1) (m + 1)
  else if (s.getD a 0).toNat < 192 then (match sizeD s 128 e a with
    | .bad x p => .bad x p
    | .ok n b _ => textD s a b n (m + 1))
  else match sizeD s 192 e a with
    | .bad x p => .bad x p
    | .ok n b _ => packD (listD (fun a m => f (b + n) a m) (b + n) (s.length + 1) b (m + 1) [])
def itemD (s : List UInt8) : Nat → Nat → Nat → Nat → Rd It
  | 0 => fun _ a _ => .bad 13 a
  | d + 1 => stepD s (itemD s d)
theorem itemD_zero (s : List UInt8) (e a m : Nat) : itemD s 0 e a m = .bad 13 a := rfl
theorem itemD_succ (s : List UInt8) (d e a m : Nat) : itemD s (d + 1) e a m = stepD s (itemD s d) e a m := rfl
def noI : It := .mk false [] []
def wholeD (s : List UInt8) : Rd It :=
  match itemD s 16 s.length 0 0 with
  | .bad x p => .bad x p
  | .ok x a m => if a < s.length then .bad 12 a else .ok x a m
def decD (s : List UInt8) : It × Nat × Nat :=
  if 1048576 < s.length then (noI, 2, 0)
  else match wholeD s with
    | .bad x p => (noI, x, p)
    | .ok x _ _ => (x, 0, 0)
theorem beN_app : ∀ (a b : List UInt8), beN (a ++ b) = beN a + 256 ^ a.length * beN b
  | [], b => by simp [beN]
  | x :: r, b => by
    rw [List.cons_append, beN, beN, beN_app r b, List.length_cons, Nat.pow_succ, Nat.mul_add]
    rw [show 256 ^ r.length * 256 * beN b = 256 * (256 ^ r.length * beN b) by rw [Nat.mul_comm (256 ^ r.length) 256, Nat.mul_assoc]]
    omega
theorem beN_inj : ∀ (a b : List UInt8), a.length = b.length → beN a = beN b → a = b
  | [], [], _, _ => rfl
  | [], y :: q, h, _ => by cases h
  | x :: r, [], h, _ => by cases h
  | x :: r, y :: q, h, e => by
    have hx := x.toNat_lt
    have hy := y.toNat_lt
    simp only [beN] at e
    have h1 : x.toNat = y.toNat := by omega
    have h2 : beN r = beN q := by omega
    rw [UInt8.toNat_inj.1 h1, beN_inj r q (by simpa using h) h2]
theorem beN_mod : ∀ (l : List UInt8) (n : Nat), (∀ i (h : i < l.length), (l[i]).toNat = digN n i) → beN l = n % 256 ^ l.length
  | [], n, _ => by rw [List.length_nil, Nat.pow_zero, Nat.mod_one]; rfl
  | x :: r, n, h => by
    have h0 := h 0 (by simp)
    rw [List.getElem_cons_zero, digN_eq, Nat.pow_zero, Nat.div_one] at h0
    have ih := beN_mod r (n / 256) fun i hi => by
      have := h (i + 1) (by simpa using hi)
      rw [List.getElem_cons_succ] at this
      rw [this, digN_eq, digN_eq, Nat.pow_succ, Nat.mul_comm, ← Nat.div_div_eq_div_mul]
    rw [beN, ih, List.length_cons, Nat.pow_succ, Nat.mul_comm (256 ^ r.length) 256, Nat.mod_mul, h0]
theorem numN_cons (c : UInt8) (r : List UInt8) : numN (c :: r) = numN r + 256 ^ r.length * c.toNat := by
  unfold numN
  rw [List.reverse_cons, beN_app, List.length_reverse]
  simp [beN]
theorem numN_lt (l : List UInt8) : numN l < 256 ^ l.length := by
  unfold numN
  have := beN_lt l.reverse
  rwa [List.length_reverse] at this
theorem numN_drop0 : ∀ l : List UInt8, numN (l.dropWhile fun b => b == 0) = numN l
  | [] => rfl
  | x :: r => by
    rw [List.dropWhile_cons]
    split
    · rename_i h
      have h : x = 0 := by simpa using h
      rw [numN_drop0 r, numN_cons, h]; simp
    · rfl
theorem dropWhile_head : ∀ l : List UInt8, ((l.dropWhile fun b => b == 0).headD 1) ≠ 0
  | [] => by decide
  | x :: r => by
    rw [List.dropWhile_cons]
    split
    · exact dropWhile_head r
    · rename_i h; simpa using h
theorem numN_wbytes (w : W) : numN (wbytes w) = w.num := by
  have hl : (wbytes w).reverse.length = 32 := by rw [List.length_reverse, wbytes_len]
  unfold numN
  rw [beN_mod (wbytes w).reverse w.num fun i hi => ?_, hl]
  · exact Nat.mod_eq_of_lt (Nat.lt_of_lt_of_eq (W.num_lt w) (by decide))
  · rw [hl] at hi
    have h := wbytes_at w (j := 31 - i) (by omega)
    rw [show 31 - (31 - i) = i by omega] at h
    have h2 : (wbytes w).reverse[i]? = some (UInt8.ofNat (digN w.num i)) := by
      rw [List.getElem?_reverse (by rw [wbytes_len]; exact hi), wbytes_len, show 32 - 1 - i = 31 - i by omega, h]
    have h3 := (List.getElem?_eq_some_iff.1 h2).2
    rw [h3, UInt8.toNat_ofNat', Nat.mod_eq_of_lt (digN_lt _ _)]
theorem numL_num (w : W) : numN (numL w) = w.num := by unfold numL; rw [numN_drop0, numN_wbytes]
theorem numL_head (w : W) : (numL w).headD 1 ≠ 0 := by unfold numL; exact dropWhile_head _
theorem numN_ge {l : List UInt8} (h : l.headD 1 ≠ 0) (h0 : l ≠ []) : 256 ^ (l.length - 1) ≤ numN l := by
  cases l with
  | nil => exact absurd rfl h0
  | cons c r =>
    rw [numN_cons, List.length_cons, Nat.add_sub_cancel]
    have hc : 1 ≤ c.toNat := by
      rcases Nat.eq_zero_or_pos c.toNat with h1 | h1
      · exact absurd (UInt8.toNat_inj.1 h1) h
      · exact h1
    have := Nat.mul_le_mul_left (256 ^ r.length) hc
    omega
theorem numN_len {a b : List UInt8} (ha : a.headD 1 ≠ 0) (hb : numN a ≤ numN b) : a.length ≤ b.length := by
  rcases Nat.lt_or_ge b.length a.length with h | h
  · exfalso
    have h0 : a ≠ [] := fun h0 => by rw [h0] at h; simp at h
    have h1 := numN_ge ha h0
    have h2 := numN_lt b
    have h3 : 256 ^ b.length ≤ 256 ^ (a.length - 1) := Nat.pow_le_pow_right (by decide) (by omega)
    omega
  · exact h
theorem numN_inj {a b : List UInt8} (ha : a.headD 1 ≠ 0) (hb : b.headD 1 ≠ 0) (h : numN a = numN b) : a = b := by
  have h1 := numN_len ha (Nat.le_of_eq h)
  have h2 := numN_len hb (Nat.le_of_eq h.symm)
  have h3 := beN_inj a.reverse b.reverse (by rw [List.length_reverse, List.length_reverse]; omega) h
  rw [← List.reverse_reverse a, h3, List.reverse_reverse]
theorem W.ofInt_num (n : Nat) (h : n < 18446744073709551616) : (W.ofInt (n : Int)).num = n := by
  unfold W.ofInt
  rw [if_pos (by omega)]
  show (n : Int).toNat % 18446744073709551616 + 18446744073709551616 * (0 + 18446744073709551616 * (0 + 18446744073709551616 * 0)) = n
  rw [Int.toNat_natCast, Nat.mod_eq_of_lt h]
  simp
noncomputable def lenL (n : Nat) : List UInt8 := numL (W.ofInt (n : Int))
theorem lenL_num {n : Nat} (h : n < 18446744073709551616) : numN (lenL n) = n := by unfold lenL; rw [numL_num, W.ofInt_num n h]
theorem lenL_head (n : Nat) : (lenL n).headD 1 ≠ 0 := numL_head _
theorem lenL_ne {n : Nat} (h : n < 18446744073709551616) (h0 : 0 < n) : lenL n ≠ [] := fun h1 => by
  have := lenL_num h
  rw [h1] at this
  have h2 : numN [] = 0 := rfl
  omega
theorem lenL_len {n : Nat} (h : n < 18446744073709551616) : (lenL n).length ≤ 8 := by
  rcases Nat.lt_or_ge 8 (lenL n).length with h1 | h1
  · exfalso
    have h0 : lenL n ≠ [] := fun h0 => by rw [h0] at h1; simp at h1
    have h2 := numN_ge (lenL_head n) h0
    rw [lenL_num h] at h2
    have h3 : 256 ^ 8 ≤ 256 ^ ((lenL n).length - 1) := Nat.pow_le_pow_right (by decide) (by omega)
    have h4 : (256 : Nat) ^ 8 = 18446744073709551616 := by decide
    omega
  · exact h1
theorem headL_le {k n : Nat} (h : n ≤ 55) : headL k n = [UInt8.ofNat (k + n)] := by unfold headL; rw [if_pos h]
theorem headL_gt {k n : Nat} (h : ¬ n ≤ 55) : headL k n = UInt8.ofNat (k + 55 + (lenL n).length) :: lenL n := by unfold headL; rw [if_neg h]; rfl
end Go.Ev
set_option linter.unusedSimpArgs false
set_option linter.unusedVariables false
namespace Go.Ev
theorem ncatB (x y : List UInt8) (h : x.length + y.length ≤ 9223372036854775807) : catB (bs x) (bs y) = some (.string (bs (x ++ y))) := by
  unfold catB
  rw [bs_size, bs_size, bs_append, if_neg]
  show ¬ ((x.length + y.length : Nat) : Int) > (9223372036854775807 : Int)
  omega
theorem nbs_idx {l : List UInt8} {i : Nat} (h : i < l.length) : (bs l).data[i]? = some l[i] := by
  show l.toArray[i]? = _
  rw [List.getElem?_toArray, List.getElem?_eq_getElem h]
noncomputable def trimZ : List UInt8 → List UInt8 := hid fun l => l.dropWhile fun b => b == 0
theorem trimZ_eq (l : List UInt8) : trimZ l = l.dropWhile fun b => b == 0 := by unfold trimZ; rw [hid_eq]
theorem trimZ_num (w : W) : trimZ (wbytes w) = numL w := by rw [trimZ_eq]; rfl
theorem dropWhile_le {α : Type} (p : α → Bool) : ∀ l : List α, (l.dropWhile p).length ≤ l.length
  | [] => Nat.le_refl _
  | x :: r => by
    rw [List.dropWhile_cons]
    split
    · exact Nat.le_succ_of_le (dropWhile_le p r)
    · exact Nat.le_refl _
theorem numL_len (w : W) : (numL w).length ≤ 32 := by unfold numL; have := dropWhile_le (fun b : UInt8 => b == 0) (wbytes w); rw [wbytes_len] at this; exact this
noncomputable def rtextG : List Value → Option Value
  | [.string b] => some (.agg #[.bool false, .string b, .slice none 0 0])
  | _ => none
noncomputable def rnumG : List Value → Option Value
  | [x] => (wOf x).bind fun a => some (.agg #[.bool false, .string (bs (numL a)), .slice none 0 0])
  | _ => none
noncomputable def trimZG8 : List Value → Option Value
  | [.string s, .string c] => if c.data.toList = [0] then some (.string (bs (trimZ s.data.toList))) else none
  | _ => none
noncomputable def trimZG1 : List Value → Option Value
  | [.string s, .int .u8 c] => if c = 0 then some (.string (bs (trimZ s.data.toList))) else none
  | _ => none
noncomputable def headK : Int → Int → ByteArray := hid fun k n => bs (headL k.toNat n.toNat)
theorem headK_eq (k n : Nat) : headK (k : Int) (n : Int) = bs (headL k n) := by unfold headK; rw [hid_eq]; rfl
noncomputable def headG : List Value → Option Value
  | [.int .i64 k, .int .i64 n] => if (k = 128 ∨ k = 192) ∧ 0 ≤ n ∧ n ≤ 1099511627776 then some (.string (headK k n)) else none
  | _ => none
def ofNG : List Value → Option Value
  | [.int .i64 n] => if -9223372036854775808 ≤ n ∧ n ≤ 9223372036854775807 then some (W.ofInt n).v else none
  | _ => none
theorem u8_wrapN (m : Nat) : IntKind.u8.wrap (m : Int) = ((UInt8.ofNat m).toNat : Int) := by
  rw [UInt8.toNat_ofNat']
  show ((m : Int)) % 256 = _
  omega
attribute [push_cast] ofNG
attribute [push_cast] rtextG rnumG trimZG8 trimZG1 headG
end Go.Ev
namespace Go.Proofs.YtolmipnaheifcaaDoor
open Go Go.Ev Go.Proofs
set_option maxRecDepth 100000
set_option maxHeartbeats 4000000
theorem trim1z_ok (s : ByteArray) : CallsV Tryd.prog 47 [.string s, .int .u8 0] [] (Ret0 (.string (bs (trimZ s.data.toList)))) := by
  obtain ⟨l, rfl⟩ := bs_of s
  rw [bs_data]
  obtain ⟨R, hR⟩ : ∃ R, R = trimZ l := ⟨_, rfl⟩
  rw [← hR]
  refine callsO (noG_ok _) Tryd.mix Tryd.pl47 Tryd.func47 rfl Tryd.ntmps47 Tryd.results47 rfl (by first | rfl | assumption) (Nat.le_of_ble_eq_true rfl) (by kernel_rfl) ?_
  simp only [push_cast, seval, reduceCtorEq]
  refine loopO (noG_ok _) (pl := Tryd.pl47) Tryd.mix (X := List UInt8)
    (fun x => ([(0, .string (bs x)), (1, .int .u8 0)], []))
    (fun x => trimZ x = R) (fun x => x.length) l ?_ ?_ (by kernel_rfl) ?_
  · exact hR.symm
  · simp only [push_cast, seval, reduceCtorEq]
  · intro x hx
    dsimp only at hx ⊢
    cases x with
    | nil =>
      have e : R = [] := by rw [← hx, trimZ_eq]; rfl
      simp only [push_cast, seval, reduceCtorEq, List.length_nil, e]
    | cons y r =>
      obtain ⟨z, hz⟩ : ∃ z, z = y :: r := ⟨_, rfl⟩
      have zl : z.length = r.length + 1 := by rw [hz]; rfl
      have c1 : (0 : Int) < (z.length : Int) := by omega
      have c2 : 0 < z.length := by omega
      have c3 : 1 ≤ z.length := by omega
      have c4 : (1 : Int) ≤ (z.length : Int) := by omega
      have b0 : (bs z).data[0]? = some y := by rw [nbs_idx c2]; subst hz; rfl
      have dr : List.take (z.length - 1) (List.drop 1 z) = r := by rw [hz]; show List.take (r.length + 1 - 1) r = r; exact List.take_of_length_le (by omega)
      rw [← hz] at hx ⊢
      by_cases hy : y = 0
      · have e : ((y.toNat : Int) == 0) = true := by rw [hy]; rfl
        have hx' : trimZ r = R := by rw [← hx, hz, trimZ_eq, trimZ_eq, List.dropWhile_cons, if_pos (by rw [hy]; rfl)]
        simp only [push_cast, seval, reduceCtorEq, c1, c2, c3, c4, b0, e, dr]
        exact ⟨r, hx', by omega, rfl⟩
      · have e : ((y.toNat : Int) == 0) = false := beq_eq_false_iff_ne.2 fun h => hy (UInt8.toNat_inj.1 (show y.toNat = 0 by omega))
        have hx' : z = R := by rw [← hx, hz, trimZ_eq, List.dropWhile_cons, if_neg (by simpa using hy)]
        simp only [push_cast, seval, reduceCtorEq, c1, c2, c3, b0, e]
        rw [hx']
theorem trim1zG_ok (args : List Value) (v : Value) (h : trimZG1 args = some v) : CallsV Tryd.prog 47 args [] (Ret0 v) := by
  unfold trimZG1 at h
  split at h
  · split at h
    · rename_i hc; cases h; rw [hc]; exact trim1z_ok _
    · cases h
  · cases h
noncomputable def gN0 : Gam := (addG 30 wbytesG (addG 47 trimZG1 noG))
attribute [push_cast] gN0
theorem gN0_ok : GamOk Tryd.prog gN0 := (addG_ok wordBytesG (addG_ok trim1zG_ok (noG_ok _)))
attribute [push_cast] gN0
theorem trimz_ok (s : ByteArray) : CallsV Tryd.prog 29 [.string s, .string (bs [0])] [] (Ret0 (.string (bs (trimZ s.data.toList)))) := by
  obtain ⟨l, rfl⟩ := bs_of s
  rw [bs_data]
  have b0 : (bs [0]).data[0]? = some 0 := rfl
  have e0 : (bs [0]).toList = [0] := bs_toList _
  have e1 : ByteArray.toList { data := #[] } = [] := bs_toList []
  have e2 : ([0] : List UInt8).length = 1 := rfl
  have e3 : ((0 : UInt8).toNat : Int) = 0 := rfl
  have e4 : ([0] == ([] : List UInt8)) = false := rfl
  refine callsO gN0_ok Tryd.mix Tryd.pl29 Tryd.func29 rfl Tryd.ntmps29 Tryd.results29 rfl (by first | rfl | assumption) (Nat.le_of_ble_eq_true rfl) (by kernel_rfl) ?_
  cases l with
  | nil =>
    have e5 : (([] : List UInt8) == []) = true := rfl
    have e6 : trimZ [] = [] := by rw [trimZ_eq]; rfl
    simp only [push_cast, seval, reduceCtorEq, e1, e5, e6]
    try rfl
  | cons y r =>
    obtain ⟨z, hz⟩ : ∃ z, z = y :: r := ⟨_, rfl⟩
    have e5 : (z == []) = false := by rw [hz]; rfl
    rw [← hz]
    simp only [push_cast, seval, reduceCtorEq, e1, e2, e3, e4, e5, b0]
theorem trimzG_ok (args : List Value) (v : Value) (h : trimZG8 args = some v) : CallsV Tryd.prog 29 args [] (Ret0 v) := by
  unfold trimZG8 at h
  split at h
  · split at h
    · rename_i s c hc
      cases h
      have : c = bs [0] := by
        obtain ⟨m, rfl⟩ := bs_of c
        rw [bs_data] at hc
        rw [hc]
      rw [this]; exact trimz_ok _
    · cases h
  · cases h
theorem rtext_ok (b : ByteArray) : CallsV Tryd.prog 20 [.string b] [] (Ret0 (.agg #[.bool false, .string b, .slice none 0 0])) := by
  refine callsO gN0_ok Tryd.mix Tryd.pl20 Tryd.func20 rfl Tryd.ntmps20 Tryd.results20 rfl (by first | rfl | assumption) (Nat.le_of_ble_eq_true rfl) (by kernel_rfl) ?_
  simp only [push_cast, seval, reduceCtorEq]
  trace_state
theorem rtextG_ok (args : List Value) (v : Value) (h : rtextG args = some v) : CallsV Tryd.prog 20 args [] (Ret0 v) := by
  unfold rtextG at h
  split at h
  · cases h; exact rtext_ok _
  · cases h
noncomputable def gN1 : Gam := (addG 20 rtextG (addG 29 trimZG8 gN0))
attribute [push_cast] gN1
theorem gN1_ok : GamOk Tryd.prog gN1 := (addG_ok rtextG_ok (addG_ok trimzG_ok gN0_ok))
attribute [push_cast] gN1
theorem rnum_ok (w : W) : CallsV Tryd.prog 15 [w.v] [] (Ret0 (.agg #[.bool false, .string (bs (numL w)), .slice none 0 0])) := by
  have hz := trimZ_num w
  have hd : (bs [0]).data.toList = [0] := bs_data _
  refine callsO gN1_ok Tryd.mix Tryd.pl15 Tryd.func15 rfl Tryd.ntmps15 Tryd.results15 rfl (by first | rfl | assumption) (Nat.le_of_ble_eq_true rfl) (by kernel_rfl) ?_
  simp only [push_cast, seval, reduceCtorEq]
  intro b1 b2 hb2
  simp only [push_cast, seval, reduceCtorEq, hb2, bs_mk, hd, hz]
theorem rnumG_ok (args : List Value) (v : Value) (h : rnumG args = some v) : CallsV Tryd.prog 15 args [] (Ret0 v) := by
  unfold rnumG at h
  split at h
  · rename_i x
    cases hx : wOf x with
    | none => simp [hx] at h
    | some a => simp only [hx, Option.bind_some, Option.some.injEq] at h; rw [wOf_some hx, ← h]; exact rnum_ok a
  · cases h
theorem wordOfNG (args : List Value) (v : Value) (h : ofNG args = some v) : CallsV Tryd.prog 66 args [] (Ret0 v) := by
  unfold ofNG at h
  split at h
  · split at h
    · rename_i n hn; cases h; exact wordOf n hn
    · cases h
  · cases h
noncomputable def gN2 : Gam := (addG 66 ofNG (addG 15 rnumG gN1))
attribute [push_cast] gN2
theorem gN2_ok : GamOk Tryd.prog gN2 := (addG_ok wordOfNG (addG_ok rnumG_ok gN1_ok))
attribute [push_cast] gN2
theorem head_ok (k n : Nat) (hk : k = 128 ∨ k = 192) (hn : n ≤ 1099511627776) : CallsV Tryd.prog 45 [.int .i64 k, .int .i64 n] [] (Ret0 (.string (headK k n))) := by
  rw [headK_eq]
  obtain ⟨R, hR⟩ : ∃ R, R = headL k n := ⟨_, rfl⟩
  rw [← hR]
  unfold headL at hR
  have w0 : IntKind.i64.wrap ((k : Int) + (n : Int)) = ((k + n : Nat) : Int) := by rw [Int.natCast_add]; exact IntWalk.i64_in _ (by omega)
  by_cases hc : n ≤ 55
  · rw [if_pos hc] at hR
    have c1 : (n : Int) ≤ 55 := by omega
    have w1 := u8_wrapN (k + n)
    have hb : bytesOf [.int .u8 ((UInt8.ofNat (k + n)).toNat : Int)] = some [UInt8.ofNat (k + n)] := bytesOf_byteV [UInt8.ofNat (k + n)]
    obtain ⟨c, hc'⟩ : ∃ c, c = UInt8.ofNat (k + n) := ⟨_, rfl⟩
    rw [← hc'] at w1 hb hR
    obtain ⟨m, hm⟩ : ∃ m, m = k + n := ⟨_, rfl⟩
    rw [← hm] at w0 w1
    refine callsO gN2_ok Tryd.mix Tryd.pl45 Tryd.func45 rfl Tryd.ntmps45 Tryd.results45 rfl (by first | rfl | assumption) (Nat.le_of_ble_eq_true rfl) (by kernel_rfl) ?_
    simp only [push_cast, seval, reduceCtorEq, c1, w0, w1, hb]
    rw [hR]; rfl
  · rw [if_neg hc] at hR
    have c1 : ¬ (n : Int) ≤ 55 := by omega
    have nl := numL_len (W.ofInt (n : Int))
    obtain ⟨D, hD⟩ : ∃ D, D = numL (W.ofInt (n : Int)) := ⟨_, rfl⟩
    rw [← hD] at hR nl
    obtain ⟨w, hw⟩ : ∃ w, w = W.ofInt (n : Int) := ⟨_, rfl⟩
    rw [← hw] at hD
    have w1 := u8_wrapN (k + 55 + D.length)
    have hb : bytesOf [.int .u8 ((UInt8.ofNat (k + 55 + D.length)).toNat : Int)] = some [UInt8.ofNat (k + 55 + D.length)] := bytesOf_byteV [UInt8.ofNat (k + 55 + D.length)]
    obtain ⟨c, hc'⟩ : ∃ c, c = UInt8.ofNat (k + 55 + D.length) := ⟨_, rfl⟩
    rw [← hc'] at w1 hb hR
    have w2 : IntKind.i64.wrap ((k : Int) + 55) = (k : Int) + 55 := IntWalk.i64_in _ (by omega)
    have w3 : IntKind.i64.wrap ((k : Int) + 55 + (D.length : Int)) = ((k + 55 + D.length : Nat) : Int) := by
      rw [show (k : Int) + 55 + (D.length : Int) = ((k + 55 + D.length : Nat) : Int) by omega]; exact IntWalk.i64_in _ (by omega)
    obtain ⟨m, hm⟩ : ∃ m, m = k + 55 + D.length := ⟨_, rfl⟩
    rw [← hm] at w1 w3
    have n1 : -9223372036854775808 ≤ (n : Int) := by omega
    have n2 : (n : Int) ≤ 9223372036854775807 := by omega
    have hcat : catB (bs [c]) (bs D) = some (.string (bs R)) := by rw [ncatB [c] D (by show 1 + _ ≤ _; omega), hR]; rfl
    refine callsO gN2_ok Tryd.mix Tryd.pl45 Tryd.func45 rfl Tryd.ntmps45 Tryd.results45 rfl (by first | rfl | assumption) (Nat.le_of_ble_eq_true rfl) (by kernel_rfl) ?_
    simp only [push_cast, seval, reduceCtorEq, c1, n1, n2, ← hw, ← hD, w1, w2, w3, hb, bs_mk, hcat]
theorem headG_ok (args : List Value) (v : Value) (h : headG args = some v) : CallsV Tryd.prog 45 args [] (Ret0 v) := by
  unfold headG at h
  split at h
  · rename_i k n
    split at h
    · rename_i hc
      obtain ⟨h1, h2, h3⟩ := hc
      cases h
      obtain ⟨k', rfl⟩ : ∃ k' : Nat, k = (k' : Int) := ⟨k.toNat, by omega⟩
      obtain ⟨n', rfl⟩ : ∃ n' : Nat, n = (n' : Int) := ⟨n.toNat, by omega⟩
      exact head_ok k' n' (by omega) (by omega)
    · cases h
  · cases h
noncomputable def gN3 : Gam := (addG 45 headG gN2)
attribute [push_cast] gN3
theorem gN3_ok : GamOk Tryd.prog gN3 := (addG_ok headG_ok gN2_ok)
attribute [push_cast] gN3
end Go.Proofs.YtolmipnaheifcaaDoor
set_option linter.unusedSimpArgs false
set_option linter.unusedVariables false
namespace Go.Ev
structure Sl where
  key : W
  val : W
def Sl.cells (x : Sl) : List Value := x.key.cells ++ x.val.cells
def Sl.v (x : Sl) : Value := .agg x.cells.toArray
theorem Sl.len (x : Sl) : x.cells.length = 8 := rfl
theorem Sl.take8 (x : Sl) : List.take 8 x.cells = x.cells := rfl
theorem Sl.key0 (x : Sl) : List.take 4 x.cells = x.key.cells := rfl
theorem Sl.val4 (x : Sl) : List.take 4 (List.drop 4 x.cells) = x.val.cells := rfl
theorem Sl.all1 (x : Sl) : x.cells.all oneC = true := rfl
theorem Sl.eta (x : Sl) : x.key.cells ++ x.val.cells = x.cells := rfl
theorem Sl.drop8 (x : Sl) (l : List Value) : List.drop 8 (x.cells ++ l) = l := rfl
theorem Sl.drop8' (x : Sl) : List.drop 8 x.cells = [] := rfl
theorem Sl.agg (x : Sl) : Value.agg x.cells.toArray = x.v := rfl
theorem Sl.v_cells (x : Sl) : x.v.cells = x.cells.toArray := rfl
instance : DecidableEq Sl := fun x y => if h : x.key = y.key ∧ x.val = y.val then .isTrue (by cases x; cases y; cases h.1; cases h.2; rfl) else .isFalse fun e => h (by rw [e]; exact ⟨rfl, rfl⟩)
def slC (l : List Sl) : List Value := l.flatMap Sl.cells
theorem slC_one (x : Sl) : slC [x] = x.cells := by simp [slC]
theorem subH_skip {e : Ent} : ∀ {L H : Hp}, fresh e.blk H → (subH (e :: L) H) = (subH L H)
  | _, [], _ => rfl
  | L, f :: r, h => by
    simp only [subH, findE, remE]
    rw [if_neg h.2.1, if_neg h.2.1, subH_skip h.2.2]
attribute [push_cast] slC_one Sl.eta Sl.all1 Sl.drop8 Sl.drop8' Sl.len Sl.take8 Sl.key0 Sl.val4 Sl.agg Sl.v_cells subH_self subH_skip
end Go.Ev
namespace Go.Proofs.YtolmipnaheifcaaDoor
open Go Go.Ev Go.Proofs
set_option maxRecDepth 100000
set_option maxHeartbeats 4000000
end Go.Proofs.YtolmipnaheifcaaDoor
set_option linter.unusedSimpArgs false
set_option linter.unusedVariables false
namespace Go.Ev
end Go.Ev
namespace Go.Proofs.YtolmipnaheifcaaDoor
open Go Go.Ev Go.Proofs
set_option maxRecDepth 100000
set_option maxHeartbeats 4000000
end Go.Proofs.YtolmipnaheifcaaDoor
set_option linter.unusedSimpArgs false
set_option linter.unusedVariables false
namespace Go.Ev
theorem W.zero_agg : Value.agg #[.int .u64 0, .int .u64 0, .int .u64 0, .int .u64 0] = W.zero.v := rfl
theorem W.ext_iff' {x y : W} : x = y ↔ x.a = y.a ∧ x.b = y.b ∧ x.c = y.c ∧ x.d = y.d := ⟨fun h => by subst h; exact ⟨rfl, rfl, rfl, rfl⟩, fun h => W.eq h.1 h.2.1 h.2.2.1 h.2.2.2⟩
theorem W.eqC (x y : W) : eqC [.i, .i, .i, .i] x.cells y.cells = some (decide (x = y)) := by
  simp only [W.cells, Go.Ev.eqC, if_true, Option.map_some, Option.some.injEq, Bool.and_true]
  rw [Bool.eq_iff_iff]
  simp only [Bool.and_eq_true, beq_iff_eq, decide_eq_true_eq, W.ext_iff', Int.ofNat_inj]
theorem W.eqV {P : Program} {t : TypeId} (x y : W) (h1 : tyI P t = some (4, true)) (h2 : P.eqGuardType P.depth t = false) (h3 : flatK P 12 t = some [.i, .i, .i, .i]) : eqV P t x.v y.v = some (decide (x = y)) := by
  unfold W.v Go.Ev.eqV
  simp only [h1, h2, h3, Option.bind_some, Bool.false_eq_true, if_false, List.toList_toArray, W.eqC]
theorem W.eql {P : Program} {t : TypeId} (x y : W) (h1 : tyI P t = some (4, true)) (h2 : P.eqGuardType P.depth t = false) (h3 : flatK P 12 t = some [.i, .i, .i, .i]) : binQ P .eql t x.v y.v = some (.bool (decide (x = y))) := by
  have := W.eqV x y h1 h2 h3
  unfold W.v at this ⊢
  simp only [binQ, this, Option.map_some]
theorem W.neq {P : Program} {t : TypeId} (x y : W) (h1 : tyI P t = some (4, true)) (h2 : P.eqGuardType P.depth t = false) (h3 : flatK P 12 t = some [.i, .i, .i, .i]) : binQ P .neq t x.v y.v = some (.bool (!decide (x = y))) := by
  have := W.eqV x y h1 h2 h3
  unfold W.v at this ⊢
  simp only [binQ, this, Option.map_some]
theorem Sl.eqC (x y : Sl) : Go.Ev.eqC [.i, .i, .i, .i, .i, .i, .i, .i] x.cells y.cells = some (decide (x = y)) := by
  simp only [Sl.cells, W.cells, List.cons_append, List.nil_append, Go.Ev.eqC, if_true, Option.map_some, Option.some.injEq, Bool.and_true]
  rw [Bool.eq_iff_iff]
  obtain ⟨xk, xv⟩ := x; obtain ⟨yk, yv⟩ := y
  simp only [Bool.and_eq_true, beq_iff_eq, decide_eq_true_eq, Sl.mk.injEq, W.ext_iff', Int.ofNat_inj]
  constructor
  · rintro ⟨a, b, c, d, e, f, g, h⟩; exact ⟨⟨a, b, c, d⟩, e, f, g, h⟩
  · rintro ⟨⟨a, b, c, d⟩, e, f, g, h⟩; exact ⟨a, b, c, d, e, f, g, h⟩
theorem Sl.eqV {P : Program} {t : TypeId} (x y : Sl) (h1 : tyI P t = some (8, true)) (h2 : P.eqGuardType P.depth t = false) (h3 : flatK P 12 t = some [.i, .i, .i, .i, .i, .i, .i, .i]) : Go.Ev.eqV P t x.v y.v = some (decide (x = y)) := by
  unfold Sl.v Go.Ev.eqV
  simp only [h1, h2, h3, Option.bind_some, Bool.false_eq_true, if_false, List.toList_toArray, Sl.eqC]
theorem Sl.neq {P : Program} {t : TypeId} (x y : Sl) (h1 : tyI P t = some (8, true)) (h2 : P.eqGuardType P.depth t = false) (h3 : flatK P 12 t = some [.i, .i, .i, .i, .i, .i, .i, .i]) : binQ P .neq t x.v y.v = some (.bool (!decide (x = y))) := by
  have := Sl.eqV x y h1 h2 h3
  unfold Sl.v at this ⊢
  simp only [binQ, this, Option.map_some]
attribute [push_cast high] W.zero_agg W.eql W.neq Sl.neq
end Go.Ev
namespace Go.Proofs.YtolmipnaheifcaaDoor
open Go Go.Ev Go.Proofs
set_option maxRecDepth 100000
set_option maxHeartbeats 4000000
end Go.Proofs.YtolmipnaheifcaaDoor
set_option linter.unusedSimpArgs false
set_option linter.unusedVariables false
namespace Go.Ev
structure Bo where
  key : W
  a : W
  b : W
  inB : Bool
def Bo.cells (x : Bo) : List Value := x.key.cells ++ (x.a.cells ++ (x.b.cells ++ [.bool x.inB]))
def Bo.v (x : Bo) : Value := .agg x.cells.toArray
theorem findE_appT {b : Nat} {e : Ent} {B : Hp} : ∀ {A : Hp}, findE A b = some e → findE (A ++ B) b = some e
  | [], h => by simp [findE] at h
  | x :: r, h => by
    simp only [findE, List.cons_append] at h ⊢
    split
    · rename_i hx; rw [if_pos hx] at h; exact h
    · rename_i hx; rw [if_neg hx] at h; exact findE_appT h
theorem YieldV.frame2 {P : Program} {l : Nat} {args : List Value} {A H : Hp} {e : Ent} {K K' : Value → Hp → Prop} (hy : YieldV P l args H K) (hro : ∀ v H', K v H' → ∀ e ∈ H', e.wr ∨ e ∈ H) (hm : marksOf [e] = [])
    (hk : ∀ v H', K v H' → K' v (A ++ (H' ++ [e]))) : YieldV P l args (e :: (A ++ H)) K' := by
  have h := hy.frame (A := e :: A) (K' := fun v H'' => ∃ H', K v H' ∧ H'' = (e :: A) ++ H') hro (fun v H' h => ⟨H', h, rfl⟩)
  intro w0 mu w hs
  obtain ⟨fn, tmps, assign, body, h1, h2⟩ := h w0 mu w hs
  refine ⟨fn, tmps, assign, body, h1, h2.mono ?_⟩
  rintro e' w' ⟨v, _, rfl, ⟨H', hK, rfl⟩, hs', hm'⟩
  have hp : ((e :: A) ++ H').Perm (A ++ (H' ++ [e])) := by rw [← List.append_assoc]; exact (List.perm_append_singleton e (A ++ H')).symm
  refine ⟨v, _, rfl, hk v H' hK, hs'.perm hp, ?_⟩
  have e1 : ∀ L : Hp, marksOf (e :: (A ++ L)) = marksOf (A ++ L) := fun L => by
    rw [show e :: (A ++ L) = [e] ++ (A ++ L) from rfl, marks_append, hm]; rfl
  rw [← List.append_assoc, marks_append, hm, List.append_nil]
  have h3 : marksOf (e :: (A ++ H')) = marksOf (e :: (A ++ H)) := hm'
  rw [e1, e1] at h3
  rw [e1]
  exact h3
end Go.Ev
namespace Go.Proofs.YtolmipnaheifcaaDoor
open Go Go.Ev Go.Proofs
set_option maxRecDepth 100000
set_option maxHeartbeats 4000000
end Go.Proofs.YtolmipnaheifcaaDoor
set_option linter.unusedSimpArgs false
set_option linter.unusedVariables false
namespace Go.Ev
inductive IvOk (M : Hp) : Iv → Prop
  | mk (x : Iv) (h1 : LiR Iv.cells 3 M x.kids x.sv) (h2 : x.kids.length ≤ 1099511627776) (h3 : ∀ k ∈ x.kids, IvOk M k) : IvOk M x
theorem IvOk.li {M : Hp} {x : Iv} (h : IvOk M x) : LiR Iv.cells 3 M x.kids x.sv := by cases h; assumption
theorem IvOk.len {M : Hp} {x : Iv} (h : IvOk M x) : x.kids.length ≤ 1099511627776 := by cases h; assumption
theorem IvOk.kid {M : Hp} {x : Iv} (h : IvOk M x) : ∀ k ∈ x.kids, IvOk M k := by cases h; assumption
theorem IvOk.congr {A B : Hp} (he : cellsAt A = cellsAt B) {x : Iv} (h : IvOk A x) : IvOk B x := by
  induction h with
  | mk x h1 h2 h3 ih => exact .mk x (h1.congr he) h2 ih
theorem IvOk.ext {A B : Hp} (he : Ext A B) {x : Iv} (h : IvOk A x) : IvOk B x := by
  induction h with
  | mk x h1 h2 h3 ih => exact .mk x (h1.ext he) h2 ih
theorem IvOk.text (M : Hp) (l : List UInt8) (b : Bool) (k : Nat) : IvOk M (.mk b l (.slice none 0 k) []) := .mk _ (LiR.nil _ _) (Nat.zero_le _) fun k hk => by cases hk
theorem subH_frontN (M : Hp) : ∀ (L : Hp), subH (L ++ M) L
  | [] => trivial
  | e :: r => by
    refine ⟨by simp [findE], ?_⟩
    simp only [List.cons_append, remE, if_true]
    exact subH_frontN M r
theorem Iv.all1 {x : Iv} (h : oneC x.sv = true) : x.cells.all oneC = true := by
  show (oneC (.bool x.list) && (oneC (.string (bs x.bytes)) && (oneC x.sv && true))) = true
  rw [h]; rfl
theorem encL_kids (x : It) (h : x.list = true) : encL x = headL 192 (encLs x.kids).length ++ encLs x.kids := by
  cases x with
  | mk l b ks =>
    have h : l = true := h
    subst h
    rw [encL]; rfl
theorem encL_text (x : It) (h : x.list = false) : encL x = textL x.bytes := by
  cases x with
  | mk l b ks =>
    have h : l = false := h
    subst h
    rw [encL]; rfl
theorem encLs_take (ks : List It) {i : Nat} {k : It} (h : ks[i]? = some k) : encLs (ks.take (i + 1)) = encLs (ks.take i) ++ encL k := by
  rw [encLs_flat, encLs_flat, List.take_add_one, h, List.map_append, List.flatten_append]
  simp
theorem encLs_le (ks : List It) (i : Nat) : (encLs (ks.take i)).length ≤ (encLs ks).length := by
  conv => rhs; rw [← List.take_append_drop i ks]
  rw [encLs_flat, encLs_flat, List.map_append, List.flatten_append, List.length_append]
  omega
theorem encLs_mem {ks : List It} {k : It} (h : k ∈ ks) : (encL k).length ≤ (encLs ks).length := by
  induction ks with
  | nil => cases h
  | cons y r ih =>
    rw [encLs, List.length_append]
    rcases List.mem_cons.1 h with rfl | h
    · omega
    · have := ih h; omega
end Go.Ev
namespace Go.Proofs.YtolmipnaheifcaaDoor
open Go Go.Ev Go.Proofs
set_option maxRecDepth 100000
set_option maxHeartbeats 4000000
theorem itemIter {Hc : Hp} {ks : List Iv} {b1 : Nat} {k1 : Kind} {sv : Value} {cs0 : List Value} (hn : ks.length ≤ 1099511627776) (hmc : marksOf Hc = []) (h1 : findE Hc b1 = some ⟨b1, 0, k1, sv :: cs0⟩) (h2 : LiR Iv.cells 3 Hc ks sv) (hs : ∀ k ∈ ks, oneC k.sv = true) :
    IterV Tryd.prog 65 [.pointer (some ⟨b1, 0, none⟩)] Hc (ks.map fun k => [k.v]) := by
  obtain ⟨p, c, rfl, hla⟩ := h2.openC Iv.len (by decide)
  refine ⟨enterO Tryd.func65 rfl rfl, fun X Ho I St l x0 hro hmk h0 hy => ?_⟩
  have hmarks : ∀ x, marksOf (Hc ++ Ho x) = [] := fun x => by rw [marks_append, hmc, hmk]; rfl
  have hm0 := hmarks x0
  have h1' := fun z => findE_appT (B := Ho z) h1
  have l1 : 1 ≤ cs0.length + 1 := by omega
  have yl : ∀ (j : Nat) (z : X) (k : Iv) (e : Ent) (K' : Value → Hp → Prop), ks[j]? = some k → I j z → marksOf [e] = [] → (∀ x', I (j + 1) x' → K' (.bool true) (Hc ++ (Ho x' ++ [e]))) → (∀ x', St x' → K' (.bool false) (Hc ++ (Ho x' ++ [e]))) → YieldV Tryd.prog l [k.v] (e :: (Hc ++ Ho z)) K' := fun j z k e K' hj hi hme ht hf => by
    refine (hy j z [k.v] (by rw [List.getElem?_map, hj]; rfl) hi).frame2 ?_ hme ?_
    · rintro v H' (⟨rfl, x', _, rfl⟩ | ⟨rfl, x', _, rfl⟩) <;> exact hro z x'
    · rintro v H' (⟨rfl, x', h, rfl⟩ | ⟨rfl, x', h, rfl⟩)
      · exact ht x' h
      · exact hf x' h
  obtain ⟨vs, hvs⟩ : ∃ vs, vs = ks.map fun k => [k.v] := ⟨_, rfl⟩
  have hvl : vs.length = ks.length := by rw [hvs]; simp
  have yf : ∀ (x' : X), (I vs.length x' ∨ St x') → ∃ H'_1, List.Sublist H'_1 (dropM (Hc ++ Ho x')) ∧ ∃ z, (I vs.length z ∨ St z) ∧ H'_1 = Ho z := fun x' hst => by
    refine ⟨Ho x', ?_, x', hst, rfl⟩
    rw [dropM_eq (hmarks x')]
    exact List.sublist_append_right _ _
  have yf2 : ∀ (x' : X) (e : Ent), marksOf [e] = [] → (I vs.length x' ∨ St x') → ∃ H'_1, List.Sublist H'_1 (dropM (Hc ++ (Ho x' ++ [e]))) ∧ ∃ z, (I vs.length z ∨ St z) ∧ H'_1 = Ho z := fun x' e he hst => by
    refine ⟨Ho x', ?_, x', hst, rfl⟩
    rw [← List.append_assoc, dropM_eq (by rw [marks_append, hmarks, he]; rfl)]
    exact (List.sublist_append_right _ _).trans (List.sublist_append_left _ _)
  rw [← hvs]
  refine callsO gN2_ok Tryd.mix Tryd.pl65 Tryd.func65 rfl Tryd.ntmps65 Tryd.results65 rfl (by first | rfl | assumption) (Nat.le_of_ble_eq_true rfl) (by kernel_rfl) ?_
  simp only [push_cast, seval, reduceCtorEq, h1', l1]
  refine loopO gN2_ok (pl := Tryd.pl65) Tryd.mix (X := Nat × X)
    (fun s => ([(0, .func (.yield l) #[] #[]), (5, .slice p ks.length c), (6, .int .i64 ks.length), (7, .int .i64 s.1)], Hc ++ Ho s.2))
    (fun s => s.1 ≤ ks.length ∧ I s.1 s.2) (fun s => ks.length - s.1) (0, x0) ?_ ?_ (by kernel_rfl) ?_
  · exact ⟨Nat.zero_le _, h0⟩
  · simp only [push_cast, seval, reduceCtorEq, hm0, subH_self]
  · rintro ⟨i, z⟩ ⟨hi, hI⟩
    dsimp only at hi hI ⊢
    rcases Nat.lt_or_ge i ks.length with hlt | hge
    · obtain ⟨k, hk⟩ : ∃ k, ks[i]? = some k := ⟨ks[i], List.getElem?_eq_getElem hlt⟩
      rcases hla with rfl | ⟨b, f, d, kd, cs, rfl, he, hat⟩
      · simp at hk
      obtain ⟨a1, a2⟩ := hat i k hk
      have hee := fun x => findE_appT (B := Ho x) he
      have i1 : (i : Int) < (ks.length : Int) := by omega
      have kc : k.cells.all oneC = true := Iv.all1 (hs k (List.mem_of_getElem? hk))
      have k3 : List.take 3 k.cells = k.cells := List.take_of_length_le (Nat.le_of_eq rfl)
      have kv : Value.agg k.cells.toArray = k.v := rfl
      simp only [push_cast, seval, reduceCtorEq, h1', l1, i1, hlt, hee, a1, a2, kc, Iv.len, k3]
      intro b4 hb4
      refine yl i z k ⟨b4, 0, .cel 29, k.cells⟩ _ hk hI rfl (fun x' hx' => ?_) (fun x' hx' => ?_)
      · simp only [push_cast, seval, reduceCtorEq, wrap_i64' (show -9223372036854775808 ≤ (i : Int) + 1 ∧ (i : Int) + 1 ≤ 9223372036854775807 by omega)]
        refine ⟨(i + 1, x'), ⟨hlt, hx'⟩, by dsimp only; omega, ⟨rfl, ?_, ?_⟩⟩
        · rw [← List.append_assoc]; exact subH_frontN _ _
        · rw [← List.append_assoc, marks_append (Hc ++ Ho x')]; simp [marksOf]
      · simp only [push_cast, seval, reduceCtorEq]
        exact yf2 x' _ rfl (.inr hx')
    · obtain rfl : i = ks.length := by omega
      simp only [push_cast, seval, reduceCtorEq, h1', l1, Nat.lt_irrefl, Int.lt_irrefl]
      exact yf z (.inl (by rw [hvl]; exact hI))
end Go.Proofs.YtolmipnaheifcaaDoor
set_option linter.unusedSimpArgs false
set_option linter.unusedVariables false
namespace Go.Ev
theorem roM.dupN {P : Program} {r : Option Nat} {n : Nat} {c : Code} {K : Exit → Tm → Hp → Prop} {T : Tm} {L M : Hp} (hr : roM M) (hL : freshN L M) (h : WpV P r n c K T (M ++ (L ++ M))) : WpV P r n c K T (L ++ M) := by
  intro w0 mu a w hro ht hs hd
  have hder := derE_mem hr.der
  have hk : ∀ e ∈ M, ¬ e.wr := fun e he hw => by unfold Ent.wr at hw; rw [(hder e he).1] at hw; exact hw
  obtain ⟨p1, p2, p3⟩ := List.pairwise_append.1 hs.apart
  refine h w0 mu a w hro ht ⟨hs.os, hs.tape, hs.output, hs.size, hs.old, fun e he => ?_, fun e he hw => ?_, List.pairwise_append.2 ⟨p2, hs.apart, fun x hx y hy hw => ?_⟩⟩ (by rw [hd]; unfold defersOf; rw [marks_append M, hr.marks]; rfl)
  · rcases List.mem_append.1 he with he | he
    · exact hs.ents e (List.mem_append_right L he)
    · exact hs.ents e he
  · rcases List.mem_append.1 he with he | he
    · exact absurd hw (hk e he)
    · exact hs.own e he hw
  · rcases List.mem_append.1 hy with hy | hy
    · exact (p3 y hy x hx (hw.symm)).symm
    · exact absurd hw (fun hw => hw.elim (hk x hx) (hk y hy))
theorem CallsV.preN {P : Program} {g : FuncId} {args : List Value} {H H' : Hp} {K : Value → Hp → Prop} (hp : H.Perm H') (hm : marksOf H' = marksOf H) (hc : CallsV P g args H' K) : CallsV P g args H K :=
  ⟨hc.1, fun w0 mu w hs => by have := hc.2 w0 mu w (hs.perm hp); rwa [hm] at this⟩
theorem find_behindN {L M : Hp} (hL : freshN L M) : ∀ b e, findE M b = some e → findE (L ++ M) b = some e := fun b e he => by rw [findE_freshN hL he]; exact he
theorem OutC.solid {e s n : Nat} {cs : List Value} {v : Value} {N : Hp} (h : OutC e s cs n v N) : ∀ x ∈ N, x.kind.solid = true := by
  rcases h with ⟨-, -, -, rfl⟩ | ⟨g, c, -, -, -, -, rfl⟩
  · intro x hx; cases hx
  · intro x hx; rw [List.mem_singleton.1 hx]; rfl
theorem cellsAt_open1 {M : Hp} {b : Nat} {v : Value} (h : cellsAt M b 0 1 = some [v]) : ∃ kd cs, findE M b = some ⟨b, 0, kd, v :: cs⟩ := by
  unfold cellsAt at h
  cases he : findE M b with
  | none => rw [he] at h; cases h
  | some e =>
    rw [he] at h
    have hb := (findE_mem he).2
    obtain ⟨b, f, kd, cs⟩ := e
    dsimp only at hb h
    subst hb
    by_cases hf : f ≤ 0
    · obtain rfl := Nat.le_zero.1 hf
      rw [if_pos hf] at h
      unfold subL at h
      split at h
      · have := Option.some.inj h
        rw [Nat.sub_self, List.drop_zero] at this
        cases cs with
        | nil => cases this
        | cons x r => injection this with h1; subst h1; exact ⟨kd, r, rfl⟩
      · cases h
    · rw [if_neg hf] at h; cases h
end Go.Ev
namespace Go.Proofs.YtolmipnaheifcaaDoor
open Go Go.Ev Go.Proofs
set_option maxRecDepth 100000
set_option maxHeartbeats 4000000
theorem valuesN_ok (p : Option Addr) (n c : Nat) : CallsV Tryd.prog 44 [.slice p n c] [] (fun v N => ∃ b, v = .func (.func 65) #[] #[.pointer (some ⟨b, 0, none⟩)] ∧ N = [⟨b, 0, .cel 27, [.slice p n c]⟩]) := by
  refine callsO gN3_ok Tryd.mix Tryd.pl44 Tryd.func44 rfl Tryd.ntmps44 Tryd.results44 rfl (by first | rfl | assumption) (Nat.le_of_ble_eq_true rfl) (by kernel_rfl) ?_
  simp only [push_cast, seval, reduceCtorEq]
  intro b
  try simp only [push_cast, seval, reduceCtorEq]
  exact ⟨[_], List.Sublist.refl _, b, rfl, rfl⟩
theorem join_ok {M0 : Hp} (hr : roM M0) {ks : List Iv} {sv : Value} {b1 : Nat} {k1 : Kind} {cs0 : List Value} (h1 : findE M0 b1 = some ⟨b1, 0, k1, sv :: cs0⟩) (h2 : LiR Iv.cells 3 M0 ks sv) (hn : ks.length ≤ 1099511627776) (hs : ∀ k ∈ ks, IvOk M0 k)
    (henc : ∀ k ∈ ks, ∀ M1, roM M1 → IvOk M1 k → CallsV Tryd.prog 27 [k.v] M1 (Ret0 (.string (bs (encL k.it))))) (hlen : (encLs (ks.map Iv.it)).length ≤ 1099511627776) :
    CallsV Tryd.prog 43 [.func (.func 65) #[] #[.pointer (some ⟨b1, 0, none⟩)], .func (.func 27) #[] #[]] M0 (Ret0 (.string (bs (encLs (ks.map Iv.it))))) := by
  have hm := hr.marks
  obtain ⟨R, hR⟩ : ∃ R, R = bs (encLs (ks.map Iv.it)) := ⟨_, rfl⟩
  rw [← hR]
  have hit := itemIter hn hm h1 h2 (fun k hk => by obtain ⟨p, c, he, -⟩ := (hs k hk).li; rw [he]; rfl)
  refine callsO gN3_ok Tryd.mix Tryd.pl43 Tryd.func43 rfl Tryd.ntmps43 Tryd.results43 rfl (by first | rfl | assumption) (Nat.le_of_ble_eq_true rfl) (by kernel_rfl) ?_
  simp only [push_cast, seval, reduceCtorEq]
  intro b3 hb3 b5 hb5
  try simp only [push_cast, seval, reduceCtorEq, hb3, hb5]
  have f3 : fresh b3 M0 := hb3
  have f5 : fresh b5 M0 := hb5.2.2
  refine roM.dupN (M := M0) (L := [_, _]) hr ⟨f5, f3, trivial⟩ ?_
  obtain ⟨B3, hB3⟩ : ∃ B : Ent, B = ⟨b3, 0, .cel 53, [.func (.func 27) #[] #[]]⟩ := ⟨_, rfl⟩
  have hroM : ∀ x y : BldX, ∀ e ∈ bldH b5 y ++ (B3 :: M0), e.wr ∨ e ∈ bldH b5 x ++ (B3 :: M0) := fun x y e he => by
    rcases List.mem_append.1 he with h | h
    · exact .inl (bldH_wr b5 y e h)
    · exact .inr (List.mem_append_right _ h)
  have hmk : ∀ x : BldX, marksOf (bldH b5 x ++ (B3 :: M0)) = [] := fun x => by rw [marks_append, bldH_marks, hB3]; simp [marksOf, hm]
  refine rangeO gN3_ok (pl := Tryd.pl43) Tryd.mix (Hc := M0) (Hm := []) hit rfl
    (X := BldX) (fun s => bldH b5 s ++ (B3 :: M0))
    (fun k s => (s.1.1 = .pointer none ∨ s.1.1 = .pointer (some ⟨b5, 0, none⟩)) ∧ OutC 5 1 (byteV (encLs ((ks.map Iv.it).take k))) (encLs ((ks.map Iv.it).take k)).length s.1.2.1 s.1.2.2 ∧ freshN s.1.2.2 [⟨b5, 0, .cel 130, [s.1.1, s.1.2.1]⟩] ∧ freshN (bldH b5 s) (B3 :: M0)) (fun _ _ => False) ⟨(.pointer none, .slice none 0 0, []), trivial, rfl⟩
    ?_ ?_ ?_ hm (by simp) hmk hroM ?_ (by kernel_rfl) (by kernel_rfl) (fun _ _ h => h.elim) ?_ ?_ (fun _ _ _ _ h => h.elim)
  · refine ⟨.inl rfl, by rw [List.take_zero]; simp only [encLs]; exact OutC.nil _ _, trivial, ?_⟩
    rw [hB3]
    exact ⟨by simp only [push_cast, seval, reduceCtorEq, hb5, f5], trivial⟩
  · rw [hB3]
    exact subH_self _
  · simp [marksOf, marks_append, hm]
  · intro args ha
    obtain ⟨z, _, rfl⟩ := List.mem_map.1 ha
    rfl
  · rintro lo k s args hk ⟨hp, ho, hf, hfM⟩
    obtain ⟨x, hx, rfl⟩ := Option.map_eq_some_iff.1 ((List.getElem?_map ..).symm.trans hk)
    have hxm := List.mem_of_getElem? hx
    have hxi : (ks.map Iv.it)[k]? = some x.it := by rw [List.getElem?_map, hx]; rfl
    have htk := encLs_take (ks.map Iv.it) hxi
    have hle := encLs_le (ks.map Iv.it) (k + 1)
    rw [htk, List.length_append] at hle
    have hmk' := hmk s
    have xall : x.cells.all oneC = true := Iv.all1 (by obtain ⟨p, c, he, -⟩ := (hs x hxm).li; rw [he]; rfl)
    have x3 : List.take 3 x.cells = x.cells := List.take_of_length_le (Nat.le_of_eq rfl)
    have xv : x.v.cells.toList = x.cells := rfl
    generalize hRK : (roundK _ _ _ k : Exit → Tm → Hp → Prop) = RK
    show oC _ _ _ _ _ _ _ (parT 14 _ _ [x.v]) _
    have hf3 : findE (bldH b5 s ++ (B3 :: M0)) b3 = some ⟨b3, 0, .cel 53, [.func (.func 27) #[] #[]]⟩ := find_behindN hfM b3 _ (by rw [hB3]; simp only [push_cast, seval, reduceCtorEq])
    simp only [push_cast, seval, reduceCtorEq, hmk', xall, x3, Iv.len, xv]
    intro b6 hb6
    have d36 := (fresh_findS hb6 hf3).2
    have f6 : fresh b6 (B3 :: M0) := fresh_app hb6
    simp only [push_cast, seval, reduceCtorEq, hf3, d36]
    rw [show (⟨b6, 0, .cel 29, x.cells⟩ :: (bldH b5 s ++ B3 :: M0) : Hp) = (⟨b6, 0, .cel 29, x.cells⟩ :: (bldH b5 s ++ [B3])) ++ M0 by simp]
    refine useP (v := .string (bs (encL x.it))) _ (fun M1 hr1 he1 => henc x hxm M1 hr1 ((hs x hxm).congr he1.symm)) ?_ ?_
    · exact ⟨f6.2.2, freshN_appL.2 ⟨freshN_cons hfM, by rw [hB3]; exact f3, trivial⟩⟩
    rw [show (⟨b6, 0, .cel 29, x.cells⟩ :: (bldH b5 s ++ [B3])) ++ M0 = (⟨b6, 0, .cel 29, x.cells⟩ :: (bldH b5 s ++ B3 :: M0) : Hp) by simp]
    simp only [push_cast, seval, reduceCtorEq]
    refine CallsV.preN (H' := bldH b5 s ++ (⟨b6, 0, .cel 29, x.cells⟩ :: B3 :: M0)) List.perm_middle.symm (by simp [marks_append, marksOf]) ?_
    refine CallsV.useMs (Hw := bldH b5 s) (Hf := []) (by rw [List.append_nil]; exact write_ok b5 s.1.1 s.1.2.1 hp _ _ ho hf (bs (encL x.it)) (by rw [bs_size]; omega)) ?_ trivial ?_
    · intro e he
      rcases List.mem_append.1 he with h | h
      · exact ho.solid e h
      · rw [List.mem_singleton.1 h]; rfl
    · rintro v N ⟨rfl, v', N', ho', hf', rfl⟩
      refine ⟨allWr_app ho'.wr.1 ⟨trivial, trivial⟩, by rw [marks_append, ho'.wr.2]; rfl, fun hfN => ?_⟩
      rw [bs_data, ← htk] at ho'
      simp only [push_cast, seval, reduceCtorEq]
      rw [← hRK]
      refine ⟨⟨(.pointer (some ⟨b5, 0, none⟩), v', N'), ho'.wr⟩, ⟨.inr rfl, ho', hf', freshN_cons hfN⟩, ?_⟩
      show subH _ (bldH b5 _ ++ _)
      unfold bldH
      rw [List.append_assoc]
      exact subH_pre (subH_pre (subH_cons f6) [_]) N'
  · rintro D s hfD ⟨hp, ho, hf, hfM⟩
    have hmk' := hmk s
    rw [List.length_map, ← List.length_map (f := Iv.it), List.take_length] at ho
    simp only [push_cast, seval, reduceCtorEq]
    refine CallsV.preN (H' := bldH b5 s ++ (⟨D, 0, .obj (.deferred (some [])), []⟩ :: B3 :: M0)) List.perm_middle.symm (by simp [marks_append, marksOf, bldH_marks]) ?_
    refine CallsV.useMs (Hw := bldH b5 s) (Hf := []) (by rw [List.append_nil]; exact string_ok b5 s.1.1 s.1.2.1 (encLs (ks.map Iv.it)) (by omega) _ ho hf) ?_ trivial ?_
    · intro e he
      rcases List.mem_append.1 he with h | h
      · exact ho.solid e h
      · rw [List.mem_singleton.1 h]; rfl
    · rintro v N ⟨rfl, rfl⟩
      refine ⟨trivial, rfl, fun _ => ?_⟩
      simp only [push_cast, seval, reduceCtorEq]
      rw [hR]; rfl
end Go.Proofs.YtolmipnaheifcaaDoor
set_option linter.unusedSimpArgs false
set_option linter.unusedVariables false
namespace Go.Ev
theorem textL_one {c : UInt8} (h : c.toNat < 128) : textL [c] = [c] := by unfold textL; dsimp only; rw [if_pos h]
theorem textL_long {l : List UInt8} (h : ∀ c, l = [c] → ¬ c.toNat < 128) : textL l = headL 128 l.length ++ l := by
  unfold textL
  split
  · rename_i c; rw [if_neg (h c rfl)]; rfl
  · rfl
theorem Iv.drop2 (x : Iv) : List.take 1 (List.drop 2 x.cells) = [x.sv] := rfl
end Go.Ev
namespace Go.Proofs.YtolmipnaheifcaaDoor
open Go Go.Ev Go.Proofs
set_option maxRecDepth 100000
set_option maxHeartbeats 4000000
theorem encode_ok (x : Iv) : ∀ M0, roM M0 → IvOk M0 x → (encL x.it).length ≤ 1099511627776 → CallsV Tryd.prog 27 [x.v] M0 (Ret0 (.string (bs (encL x.it)))) := by
  induction x using Iv.ind with
  | h x ih =>
    intro M0 hr hx hlen
    have hm := hr.marks
    have hil := Iv.it_list x
    have hib := Iv.it_bytes x
    have hik := Iv.it_kids x
    have hv : x.v = .agg #[.bool x.list, .string (bs x.bytes), x.sv] := rfl
    rw [hv]
    obtain ⟨p, c, hsv, -⟩ := id hx.li
    obtain ⟨R, hR⟩ : ∃ R, R = bs (encL x.it) := ⟨_, rfl⟩
    rw [← hR]
    refine callsO gN3_ok Tryd.mix Tryd.pl27 Tryd.func27 rfl Tryd.ntmps27 Tryd.results27 rfl (by first | rfl | assumption) (Nat.le_of_ble_eq_true rfl) (by kernel_rfl) ?_
    simp only [push_cast, seval, reduceCtorEq, hsv]
    intro b1 hb1
    have hr1 : ∀ M1, roM M1 → cellsAt M1 = cellsAt M0 → IvOk M1 x := fun M1 _ he => hx.congr he.symm
    cases hl : x.list with
    | true =>
      rw [encL_kids _ (by rw [hil]; exact hl)] at hR hlen
      rw [hik] at hR hlen
      rw [List.length_append] at hlen
      simp only [push_cast, seval, reduceCtorEq]
      refine (valuesN_ok p x.kids.length c).use trivial ?_
      rintro _ _ ⟨b, rfl, rfl⟩
      refine ⟨⟨trivial, trivial⟩, rfl, fun hfn => ?_⟩
      simp only [push_cast, seval, reduceCtorEq] at hfn
      try simp only [push_cast, seval, reduceCtorEq, hfn]
      refine CallsV.preN (H' := [⟨b1, 0, .cel 29, [.bool true, .string (bs x.bytes), .slice p x.kids.length c]⟩] ++ (⟨b, 0, .cel 27, [.slice p x.kids.length c]⟩ :: M0)) (List.Perm.swap ..) (by simp [marksOf]) ?_
      have hxt : Ext M0 (⟨b, 0, .cel 27, [.slice p x.kids.length c]⟩ :: M0) := Ext.cons hm rfl hfn.2.2
      refine useP [_] (M := ⟨b, 0, .cel 27, [.slice p x.kids.length c]⟩ :: M0) (v := .string (bs (encLs (x.kids.map Iv.it)))) (fun M1 hr1 he1 => ?_) ?_ ?_
      · have hx1 : IvOk M1 x := (hx.ext hxt).congr he1.symm
        obtain ⟨kd, cs0, hf1⟩ := cellsAt_open1 (M := M1) (b := b) (v := .slice p x.kids.length c) (by rw [he1]; simp only [push_cast, seval, reduceCtorEq])
        exact join_ok hr1 hf1 (by rw [← hsv]; exact hx1.li) hx1.len hx1.kid (fun k hk M2 hr2 hk2 => ih k hk M2 hr2 hk2 (by have := encLs_mem (List.mem_map_of_mem (f := Iv.it) hk); omega)) (by omega)
      · exact ⟨⟨hfn.2.1, hfn.1, hb1⟩, trivial⟩
      obtain ⟨S, hS⟩ : ∃ S, S = encLs (x.kids.map Iv.it) := ⟨_, rfl⟩
      rw [← hS] at hR hlen ⊢
      have c1 : ((0 : Int) ≤ (S.length : Int)) := by omega
      have c2 : (S.length : Int) ≤ 1099511627776 := by omega
      have hcat : catB (headK 192 (S.length : Int)) (bs S) = some (.string R) := by
        rw [show headK 192 (S.length : Int) = bs (headL 192 S.length) from headK_eq 192 S.length, ncatB _ _ (by omega), hR]
      simp only [push_cast, seval, reduceCtorEq, c1, c2, hcat]
    | false =>
      rw [encL_text _ (by rw [hil]; exact hl)] at hR hlen
      rw [hib] at hR hlen
      obtain ⟨B, hB⟩ : ∃ B, B = x.bytes := ⟨_, rfl⟩
      rw [← hB] at hR hlen ⊢
      have long : (∀ c, B = [c] → ¬ c.toNat < 128) → B.length ≤ 1099511627776 ∧ catB (headK 128 (B.length : Int)) (bs B) = some (.string R) := fun h => by
        rw [textL_long h] at hR hlen
        rw [List.length_append] at hlen
        refine ⟨by omega, ?_⟩
        rw [show headK 128 (B.length : Int) = bs (headL 128 B.length) from headK_eq 128 B.length, ncatB _ _ (by omega), hR]
      by_cases h1 : B.length = 1
      · obtain ⟨c, rfl⟩ := List.length_eq_one_iff.1 h1
        have b0 : (bs [c]).data[0]? = some c := rfl
        have e2 : ([c] : List UInt8).length = 1 := rfl
        by_cases hc : c.toNat < 128
        · rw [textL_one hc] at hR
          have c1 : (c.toNat : Int) < 128 := by omega
          simp only [push_cast, seval, reduceCtorEq, b0, e2, c1, hc]
          rw [hR]
        · have c1 : ¬ (c.toNat : Int) < 128 := by omega
          obtain ⟨l1, l2⟩ := long (fun d hd => by injection hd with hd; subst hd; exact hc)
          have l3 : catB (headK 128 1) (bs [c]) = some (.string R) := l2
          simp only [push_cast, seval, reduceCtorEq, b0, e2, c1, hc, l3]
      · have c1 : ((B.length : Int) == 1) = false := by rw [beq_eq_false_iff_ne]; omega
        obtain ⟨l1, l2⟩ := long (fun d hd => by rw [hd] at h1; exact absurd rfl h1)
        have c2 : (0 : Int) ≤ (B.length : Int) := by omega
        have c3 : (B.length : Int) ≤ 1099511627776 := by omega
        simp only [push_cast, seval, reduceCtorEq, c1, c2, c3, l2]
end Go.Proofs.YtolmipnaheifcaaDoor
