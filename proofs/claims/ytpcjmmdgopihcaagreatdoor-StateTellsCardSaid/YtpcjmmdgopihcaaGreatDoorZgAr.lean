/- Texts of this claim, merged by program: Nb Mh Nc Nd Ne Nf. -/
import Derived.Test.YtpcjmmdgopihcaaGreatDoorZgAq
import Derived.Test.YtpcjmmdgopihcaaGreatDoorZgAi
import Derived.Test.YtpcjmmdgopihcaaGreatDoorZgAf
import Derived.Test.YtpcjmmdgopihcaaGreatDoorZgAj
set_option linter.unusedSimpArgs false
set_option linter.unusedVariables false
set_option maxRecDepth 100000
set_option maxHeartbeats 4000000
namespace Go.Ev
theorem ncatB (x y : List UInt8) (h : x.length + y.length ≤ 9223372036854775807) : catB (bs x) (bs y) = some (.string (bs (x ++ y))) := by
 unfold catB
 rw [bs_size, bs_size, bs_append, if_neg]
 show ¬ ((x.length + y.length : Nat) : Int) > (9223372036854775807 : Int)
 omega
theorem nbs_idx {l : List UInt8} {i : Nat} (h : i < l.length) : (bs l).data[i]? = some l[i] := by
 show l.toArray[i]? = _
 rw [List.getElem?_toArray, List.getElem?_eq_getElem h]
noncomputable def trimZ : List UInt8 → List UInt8 := hid fun l => l.dropWhile fun b => b == 0
theorem trimZ_eq (l : List UInt8) : trimZ l = l.dropWhile fun b => b == 0 := by unfold trimZ; rw [hid_eq]
theorem trimZ_num (w : W) : trimZ (wbytes w) = numL w := by rw [trimZ_eq]; rfl
theorem dropWhile_le {α : Type} (p : α → Bool) : ∀ l : List α, (l.dropWhile p).length ≤ l.length
 | [] => Nat.le_refl _
 | x :: r => by
   rw [List.dropWhile_cons]
   split
   · exact Nat.le_succ_of_le (dropWhile_le p r)
   · exact Nat.le_refl _
theorem numL_len (w : W) : (numL w).length ≤ 32 := by unfold numL; have := dropWhile_le (fun b : UInt8 => b == 0) (wbytes w); rw [wbytes_len] at this; exact this
noncomputable def rtextG : List Value → Option Value
 | [.string b] => some (.agg #[.bool false, .string b, .slice none 0 0])
 | _ => none
noncomputable def rnumG : List Value → Option Value
 | [x] => (wOf x).bind fun a => some (.agg #[.bool false, .string (bs (numL a)), .slice none 0 0])
 | _ => none
noncomputable def trimZG8 : List Value → Option Value
 | [.string s, .string c] => if c.data.toList = [0] then some (.string (bs (trimZ s.data.toList))) else none
 | _ => none
noncomputable def trimZG1 : List Value → Option Value
 | [.string s, .int .u8 c] => if c = 0 then some (.string (bs (trimZ s.data.toList))) else none
 | _ => none
noncomputable def headK : Int → Int → ByteArray := hid fun k n => bs (headL k.toNat n.toNat)
theorem headK_eq (k n : Nat) : headK (k : Int) (n : Int) = bs (headL k n) := by unfold headK; rw [hid_eq]; rfl
noncomputable def headG : List Value → Option Value
 | [.int .i64 k, .int .i64 n] => if (k = 128 ∨ k = 192) ∧ 0 ≤ n ∧ n ≤ 1099511627776 then some (.string (headK k n)) else none
 | _ => none
def ofNG : List Value → Option Value
 | [.int .i64 n] => if -9223372036854775808 ≤ n ∧ n ≤ 9223372036854775807 then some (W.ofInt n).v else none
 | _ => none
theorem u8_wrapN (m : Nat) : IntKind.u8.wrap (m : Int) = ((UInt8.ofNat m).toNat : Int) := by
 rw [UInt8.toNat_ofNat']
 show ((m : Int)) % 256 = _
 omega
attribute [push_cast] ofNG
attribute [push_cast] rtextG rnumG trimZG8 trimZG1 headG
end Go.Ev
namespace Go.Proofs.YtpcjmmdgopihcaaGreatDoor
open Go Go.Ev Go.Proofs
theorem trim1z_ok (s : ByteArray) : CallsV Tryz.prog 125 [.string s, .int .u8 0] [] (Ret0 (.string (bs (trimZ s.data.toList)))) := by
 obtain ⟨l, rfl⟩ := bs_of s
 rw [bs_data]
 obtain ⟨R, hR⟩ : ∃ R, R = trimZ l := ⟨_, rfl⟩
 rw [← hR]
 refine callsO (noG_ok _) Tryz.mix Tryz.pl125 Tryz.func125 rfl Tryz.ntmps125 Tryz.results125 rfl (by first | rfl | assumption) (Nat.le_of_ble_eq_true rfl) (by kernel_rfl) ?_
 simp only [push_cast, seval, reduceCtorEq]
 refine loopO (noG_ok _) (pl := Tryz.pl125) Tryz.mix (X := List UInt8)
  (fun x => ([(0, .string (bs x)), (1, .int .u8 0)], []))
  (fun x => trimZ x = R) (fun x => x.length) l ?_ ?_ (by kernel_rfl) ?_
 · exact hR.symm
 · simp only [push_cast, seval, reduceCtorEq]
 · intro x hx
   dsimp only at hx ⊢
   cases x with
   | nil =>
     have e : R = [] := by rw [← hx, trimZ_eq]; rfl
     simp only [push_cast, seval, reduceCtorEq, List.length_nil, e]
   | cons y r =>
     obtain ⟨z, hz⟩ : ∃ z, z = y :: r := ⟨_, rfl⟩
     have zl : z.length = r.length + 1 := by rw [hz]; rfl
     have c1 : (0 : Int) < (z.length : Int) := by omega
     have c2 : 0 < z.length := by omega
     have c3 : 1 ≤ z.length := by omega
     have c4 : (1 : Int) ≤ (z.length : Int) := by omega
     have b0 : (bs z).data[0]? = some y := by rw [nbs_idx c2]; subst hz; rfl
     have dr : List.take (z.length - 1) (List.drop 1 z) = r := by rw [hz]; show List.take (r.length + 1 - 1) r = r; exact List.take_of_length_le (by omega)
     rw [← hz] at hx ⊢
     by_cases hy : y = 0
     · have e : ((y.toNat : Int) == 0) = true := by rw [hy]; rfl
       have hx' : trimZ r = R := by rw [← hx, hz, trimZ_eq, trimZ_eq, List.dropWhile_cons, if_pos (by rw [hy]; rfl)]
       simp only [push_cast, seval, reduceCtorEq, c1, c2, c3, c4, b0, e, dr]
       exact ⟨r, hx', by omega, rfl⟩
     · have e : ((y.toNat : Int) == 0) = false := beq_eq_false_iff_ne.2 fun h => hy (UInt8.toNat_inj.1 (show y.toNat = 0 by omega))
       have hx' : z = R := by rw [← hx, hz, trimZ_eq, List.dropWhile_cons, if_neg (by simpa using hy)]
       simp only [push_cast, seval, reduceCtorEq, c1, c2, c3, b0, e]
       rw [hx']
theorem trim1zG_ok (args : List Value) (v : Value) (h : trimZG1 args = some v) : CallsV Tryz.prog 125 args [] (Ret0 v) := by
 unfold trimZG1 at h
 split at h
 · split at h
   · rename_i hc; cases h; rw [hc]; exact trim1z_ok _
   · cases h
 · cases h
noncomputable def gN0 : Gam := (addG 105 wbytesG (addG 125 trimZG1 noG))
attribute [push_cast] gN0
theorem gN0_ok : GamOk Tryz.prog gN0 := (addG_ok wordBytesG (addG_ok trim1zG_ok (noG_ok _)))
attribute [push_cast] gN0
theorem trimz_ok (s : ByteArray) : CallsV Tryz.prog 104 [.string s, .string (bs [0])] [] (Ret0 (.string (bs (trimZ s.data.toList)))) := by
 obtain ⟨l, rfl⟩ := bs_of s
 rw [bs_data]
 have b0 : (bs [0]).data[0]? = some 0 := rfl
 have e0 : (bs [0]).toList = [0] := bs_toList _
 have e1 : ByteArray.toList { data := #[] } = [] := bs_toList []
 have e2 : ([0] : List UInt8).length = 1 := rfl
 have e3 : ((0 : UInt8).toNat : Int) = 0 := rfl
 have e4 : ([0] == ([] : List UInt8)) = false := rfl
 refine callsO gN0_ok Tryz.mix Tryz.pl104 Tryz.func104 rfl Tryz.ntmps104 Tryz.results104 rfl (by first | rfl | assumption) (Nat.le_of_ble_eq_true rfl) (by kernel_rfl) ?_
 cases l with
 | nil =>
   have e5 : (([] : List UInt8) == []) = true := rfl
   have e6 : trimZ [] = [] := by rw [trimZ_eq]; rfl
   simp only [push_cast, seval, reduceCtorEq, e1, e5, e6]
   try rfl
 | cons y r =>
   obtain ⟨z, hz⟩ : ∃ z, z = y :: r := ⟨_, rfl⟩
   have e5 : (z == []) = false := by rw [hz]; rfl
   rw [← hz]
   simp only [push_cast, seval, reduceCtorEq, e1, e2, e3, e4, e5, b0]
theorem trimzG_ok (args : List Value) (v : Value) (h : trimZG8 args = some v) : CallsV Tryz.prog 104 args [] (Ret0 v) := by
 unfold trimZG8 at h
 split at h
 · split at h
   · rename_i s c hc
     cases h
     have : c = bs [0] := by
      obtain ⟨m, rfl⟩ := bs_of c
      rw [bs_data] at hc
      rw [hc]
     rw [this]; exact trimz_ok _
   · cases h
 · cases h
theorem rtext_ok (b : ByteArray) : CallsV Tryz.prog 77 [.string b] [] (Ret0 (.agg #[.bool false, .string b, .slice none 0 0])) := by
 refine callsO gN0_ok Tryz.mix Tryz.pl77 Tryz.func77 rfl Tryz.ntmps77 Tryz.results77 rfl (by first | rfl | assumption) (Nat.le_of_ble_eq_true rfl) (by kernel_rfl) ?_
 simp only [push_cast, seval, reduceCtorEq]
 trace_state
theorem rtextG_ok (args : List Value) (v : Value) (h : rtextG args = some v) : CallsV Tryz.prog 77 args [] (Ret0 v) := by
 unfold rtextG at h
 split at h
 · cases h; exact rtext_ok _
 · cases h
noncomputable def gN1 : Gam := (addG 77 rtextG (addG 104 trimZG8 gN0))
attribute [push_cast] gN1
theorem gN1_ok : GamOk Tryz.prog gN1 := (addG_ok rtextG_ok (addG_ok trimzG_ok gN0_ok))
attribute [push_cast] gN1
theorem rnum_ok (w : W) : CallsV Tryz.prog 75 [w.v] [] (Ret0 (.agg #[.bool false, .string (bs (numL w)), .slice none 0 0])) := by
 have hz := trimZ_num w
 have hd : (bs [0]).data.toList = [0] := bs_data _
 refine callsO gN1_ok Tryz.mix Tryz.pl75 Tryz.func75 rfl Tryz.ntmps75 Tryz.results75 rfl (by first | rfl | assumption) (Nat.le_of_ble_eq_true rfl) (by kernel_rfl) ?_
 simp only [push_cast, seval, reduceCtorEq]
 intro b1 b2 hb2
 simp only [push_cast, seval, reduceCtorEq, hb2, bs_mk, hd, hz]
theorem rnumG_ok (args : List Value) (v : Value) (h : rnumG args = some v) : CallsV Tryz.prog 75 args [] (Ret0 v) := by
 unfold rnumG at h
 split at h
 · rename_i x
   cases hx : wOf x with
   | none => simp [hx] at h
   | some a => simp only [hx, Option.bind_some, Option.some.injEq] at h; rw [wOf_some hx, ← h]; exact rnum_ok a
 · cases h
theorem wordOfNG (args : List Value) (v : Value) (h : ofNG args = some v) : CallsV Tryz.prog 78 args [] (Ret0 v) := by
 unfold ofNG at h
 split at h
 · split at h
   · rename_i n hn; cases h; exact wordOf n hn
   · cases h
 · cases h
noncomputable def gN2 : Gam := (addG 78 ofNG (addG 75 rnumG gN1))
attribute [push_cast] gN2
theorem gN2_ok : GamOk Tryz.prog gN2 := (addG_ok wordOfNG (addG_ok rnumG_ok gN1_ok))
attribute [push_cast] gN2
theorem head_ok (k n : Nat) (hk : k = 128 ∨ k = 192) (hn : n ≤ 1099511627776) : CallsV Tryz.prog 103 [.int .i64 k, .int .i64 n] [] (Ret0 (.string (headK k n))) := by
 rw [headK_eq]
 obtain ⟨R, hR⟩ : ∃ R, R = headL k n := ⟨_, rfl⟩
 rw [← hR]
 unfold headL at hR
 have w0 : IntKind.i64.wrap ((k : Int) + (n : Int)) = ((k + n : Nat) : Int) := by rw [Int.natCast_add]; exact IntWalk.i64_in _ (by omega)
 by_cases hc : n ≤ 55
 · rw [if_pos hc] at hR
   have c1 : (n : Int) ≤ 55 := by omega
   have w1 := u8_wrapN (k + n)
   have hb : bytesOf [.int .u8 ((UInt8.ofNat (k + n)).toNat : Int)] = some [UInt8.ofNat (k + n)] := bytesOf_byteV [UInt8.ofNat (k + n)]
   obtain ⟨c, hc'⟩ : ∃ c, c = UInt8.ofNat (k + n) := ⟨_, rfl⟩
   rw [← hc'] at w1 hb hR
   obtain ⟨m, hm⟩ : ∃ m, m = k + n := ⟨_, rfl⟩
   rw [← hm] at w0 w1
   refine callsO gN2_ok Tryz.mix Tryz.pl103 Tryz.func103 rfl Tryz.ntmps103 Tryz.results103 rfl (by first | rfl | assumption) (Nat.le_of_ble_eq_true rfl) (by kernel_rfl) ?_
   simp only [push_cast, seval, reduceCtorEq, c1, w0, w1, hb]
   rw [hR]; rfl
 · rw [if_neg hc] at hR
   have c1 : ¬ (n : Int) ≤ 55 := by omega
   have nl := numL_len (W.ofInt (n : Int))
   obtain ⟨D, hD⟩ : ∃ D, D = numL (W.ofInt (n : Int)) := ⟨_, rfl⟩
   rw [← hD] at hR nl
   obtain ⟨w, hw⟩ : ∃ w, w = W.ofInt (n : Int) := ⟨_, rfl⟩
   rw [← hw] at hD
   have w1 := u8_wrapN (k + 55 + D.length)
   have hb : bytesOf [.int .u8 ((UInt8.ofNat (k + 55 + D.length)).toNat : Int)] = some [UInt8.ofNat (k + 55 + D.length)] := bytesOf_byteV [UInt8.ofNat (k + 55 + D.length)]
   obtain ⟨c, hc'⟩ : ∃ c, c = UInt8.ofNat (k + 55 + D.length) := ⟨_, rfl⟩
   rw [← hc'] at w1 hb hR
   have w2 : IntKind.i64.wrap ((k : Int) + 55) = (k : Int) + 55 := IntWalk.i64_in _ (by omega)
   have w3 : IntKind.i64.wrap ((k : Int) + 55 + (D.length : Int)) = ((k + 55 + D.length : Nat) : Int) := by
    rw [show (k : Int) + 55 + (D.length : Int) = ((k + 55 + D.length : Nat) : Int) by omega]; exact IntWalk.i64_in _ (by omega)
   obtain ⟨m, hm⟩ : ∃ m, m = k + 55 + D.length := ⟨_, rfl⟩
   rw [← hm] at w1 w3
   have n1 : -9223372036854775808 ≤ (n : Int) := by omega
   have n2 : (n : Int) ≤ 9223372036854775807 := by omega
   have hcat : catB (bs [c]) (bs D) = some (.string (bs R)) := by rw [ncatB [c] D (by show 1 + _ ≤ _; omega), hR]; rfl
   refine callsO gN2_ok Tryz.mix Tryz.pl103 Tryz.func103 rfl Tryz.ntmps103 Tryz.results103 rfl (by first | rfl | assumption) (Nat.le_of_ble_eq_true rfl) (by kernel_rfl) ?_
   simp only [push_cast, seval, reduceCtorEq, c1, n1, n2, ← hw, ← hD, w1, w2, w3, hb, bs_mk, hcat]
theorem headG_ok (args : List Value) (v : Value) (h : headG args = some v) : CallsV Tryz.prog 103 args [] (Ret0 v) := by
 unfold headG at h
 split at h
 · rename_i k n
   split at h
   · rename_i hc
     obtain ⟨h1, h2, h3⟩ := hc
     cases h
     obtain ⟨k', rfl⟩ : ∃ k' : Nat, k = (k' : Int) := ⟨k.toNat, by omega⟩
     obtain ⟨n', rfl⟩ : ∃ n' : Nat, n = (n' : Int) := ⟨n.toNat, by omega⟩
     exact head_ok k' n' (by omega) (by omega)
   · cases h
 · cases h
noncomputable def gN3 : Gam := (addG 103 headG gN2)
attribute [push_cast] gN3
theorem gN3_ok : GamOk Tryz.prog gN3 := (addG_ok headG_ok gN2_ok)
attribute [push_cast] gN3
end Go.Proofs.YtpcjmmdgopihcaaGreatDoor
namespace Go.Ev
theorem byZ : ∀ n, repV n [.int .u8 0] = byteV (List.replicate n 0)
 | 0 => rfl
 | n + 1 => by
   rw [repV_succ, byZ n, List.replicate_succ]; rfl
theorem bs_at4 {s : List UInt8} {a : Nat} (h : a < s.length) : (bs s).data[a]? = some (s.getD a 0) := by
 unfold bs
 rw [List.getD_eq_getElem?_getD, List.getElem?_toArray, List.getElem?_eq_getElem h]; rfl
def lowS (Q : List UInt8) (m s : Nat) : Nat := lowN ((Q.drop (m + s)).take (8 - s))
theorem lowS_8 (Q : List UInt8) (m : Nat) : lowS Q m 8 = 0 := by
 unfold lowS
 rw [Nat.sub_self, List.take_zero]; rfl
theorem lowS_s {Q : List UInt8} {m z : Nat} (hz : z < 8) (h : m + z < Q.length) : lowS Q m z = 256 * lowS Q m (z + 1) + (Q.getD (m + z) 0).toNat := by
 unfold lowS
 rw [show 8 - z = 8 - (z + 1) + 1 by omega, low_back h, Nat.add_comm, show m + z + 1 = m + (z + 1) by omega]
theorem lowS_lt (Q : List UInt8) (m s : Nat) : lowS Q m s < 18446744073709551616 := by
 unfold lowS
 have h := lowN_lt ((Q.drop (m + s)).take (8 - s))
 have h2 : 256 ^ ((Q.drop (m + s)).take (8 - s)).length ≤ 256 ^ 8 := Nat.pow_le_pow_right (by decide) (by rw [List.length_take]; omega)
 exact Nat.lt_of_lt_of_le h (Nat.le_trans h2 (by decide))
noncomputable def hvO : Nat → Nat → Nat := hid fun x k => x / 256 ^ k
theorem hvO_eq (x k : Nat) : hvO x k = x / 256 ^ k := by unfold hvO; rw [hid_eq]
theorem hvO_0 (x : Nat) : hvO x 0 = x := by rw [hvO_eq, Nat.pow_zero, Nat.div_one]
theorem hvO_s (x k : Nat) : hvO x (k + 1) = hvO x k / 256 := by rw [hvO_eq, hvO_eq, Nat.pow_succ, Nat.div_div_eq_div_mul]
theorem hvO_le (x k : Nat) : hvO x k ≤ x := by rw [hvO_eq]; exact Nat.div_le_self _ _
theorem ouL_at (a : List Nat) {i k : Nat} (hk : k < 8) : ouL a (8 * i + k + 1) = ouL a (8 * i + k) ++ [UInt8.ofNat (hvO (ln a i) k % 256)] := by
 rw [ouL_s, hvO_eq, show (8 * i + k) / 8 = i by omega, show (8 * i + k) % 8 = k by omega]
end Go.Ev
namespace Go.Proofs.YtpcjmmdgopihcaaGreatDoor
open Go Go.Ev Go.Proofs
theorem dpad_ok (l : List UInt8) (hl : l.length ≤ 2000000) : CallsV Tryz.prog 114 [.string (bs l)] [] (Ret0 (.string (bs (padK l)))) := by
 have hmp := more_pad l
 obtain ⟨m, hm⟩ : ∃ m, m = l.length % 136 := ⟨_, rfl⟩
 obtain ⟨n, hn⟩ : ∃ n, n = 136 - m := ⟨_, rfl⟩
 rw [← hm, ← hn] at hmp
 have em : (l.length : Int).tmod 136 = (m : Int) := by rw [Int.tmod_eq_emod_of_nonneg (by omega)]; omega
 have en : IntKind.i64.wrap (136 - (m : Int)) = (n : Int) := by
  rw [show 136 - (m : Int) = (n : Int) by omega]; exact IntWalk.i64_in _ (by omega)
 obtain ⟨p, hp⟩ : ∃ p, p = n - 1 := ⟨_, rfl⟩
 have ep : IntKind.i64.wrap ((n : Int) - 1) = (p : Int) := by
  rw [show (n : Int) - 1 = (p : Int) by omega]; exact IntWalk.i64_in _ (by omega)
 have hml : moreL n = ((List.replicate n 0).set 0 1).set p (((List.replicate n 0).set 0 1).getD p 0 + 128) := by rw [hp]; rfl
 have hcat : catB (bs l) (bs (moreL n)) = some (.string (bs (padK l))) := by rw [ncatB l (moreL n) (by rw [moreL_len]; omega), hmp]
 have ln1 : (List.replicate n (0 : UInt8)).length = n := List.length_replicate ..
 have a0 := byV_set (a := List.replicate n 0) (i := 0) (x := 1) (by omega)
 rw [List.take_zero, List.nil_append] at a0
 obtain ⟨L, hL⟩ : ∃ L, L = (List.replicate n (0 : UInt8)).set 0 1 := ⟨_, rfl⟩
 have lL : L.length = n := by rw [hL, List.length_set, ln1]
 rw [← hL] at a0 hml
 have a1 := byV_at (a := L) (i := p) (by omega)
 have a2 := byV_set (a := L) (i := p) (x := L.getD p 0 + 128) (by omega)
 rw [← hml] at a2
 have w8 : IntKind.u8.wrap (((L.getD p 0).toNat : Int) + 128) = ((L.getD p 0 + 128).toNat : Int) := by
  rw [IntKind.wrap_u8, UInt8.toNat_add]; rfl
 obtain ⟨c, hc⟩ : ∃ c, c = L.getD p 0 := ⟨_, rfl⟩
 rw [← hc] at a1 a2 w8
 have b0 : (byteV (List.replicate n 0)).length = n := by rw [byV_len, ln1]
 have b1 : (byteV L).length = n := by rw [byV_len, lL]
 have b2 : (byteV (moreL n)).length = n := by rw [byV_len, moreL_len]
 have b3 : List.take n (byteV (moreL n)) = byteV (moreL n) := List.take_of_length_le (Nat.le_of_eq b2)
 have n0 : (0 : Int) ≤ n := by omega
 have n1 : (0 : Int) < n := by omega
 have n2 : 1 ≤ n := by omega
 have n3 : 0 < n := by omega
 have n4 : ¬ n = 0 := by omega
 have p1 : (p : Int) < n := by omega
 have p2 : p + 1 ≤ n := by omega
 refine callsO gM0_ok Tryz.mix Tryz.pl114 Tryz.func114 rfl Tryz.ntmps114 Tryz.results114 rfl (by first | rfl | assumption) (Nat.le_of_ble_eq_true rfl) (by kernel_rfl) ?_
 simp only [push_cast, seval, reduceCtorEq, em, en, wrap_i64' (show -9223372036854775808 ≤ (m : Int) ∧ (m : Int) ≤ 9223372036854775807 by omega), n0, Int.le_refl]
 refine ⟨by unfold two47; omega, fun bq => ?_⟩
 rw [byZ]
 have one8 : ((1 : UInt8).toNat : Int) = 1 := rfl
 rw [one8] at a0
 simp only [push_cast, seval, reduceCtorEq, n0, n1, n2, n3, n4, p1, p2, ep, b0, b1, b2, b3, a0, a1, a2, w8, bytesOf_byteV, bs_mk, hcat]
theorem dhash_ok (l : List UInt8) (hl : l.length ≤ 2000000) : CallsV Tryz.prog 89 [.string (bs l)] [] (Ret0 (.string (bs (keccK l)))) := by
 obtain ⟨Q, hQ⟩ : ∃ Q, Q = padK l := ⟨_, rfl⟩
 have hq1 := padK_len l
 have hq2 := padK_mod l
 have hq3 : padJ_many l.length < 136 := Nat.mod_lt _ (by decide)
 have hpad := dpad_ok l hl
 rw [keccK_eq]
 rw [← hQ] at hq1 hq2 hpad ⊢
 obtain ⟨T, hT⟩ : ∃ T, T = Q.length := ⟨_, rfl⟩
 obtain ⟨B, hB⟩ : ∃ B, B = T / 136 := ⟨_, rfl⟩
 rw [← hT] at hq1 hq2 ⊢
 rw [← hB]
 have hTB : T = 136 * B := by omega
 have hsq : (bs Q).size = T := by rw [hT]; exact bs_size Q
 refine callsO gM0_ok Tryz.mix Tryz.pl89 Tryz.func89 rfl Tryz.ntmps89 Tryz.results89 rfl (by first | rfl | assumption) (Nat.le_of_ble_eq_true rfl) (by kernel_rfl) ?_
 simp only [push_cast, seval, reduceCtorEq]
 refine hpad.pure trivial ?_
 simp only [push_cast, seval, reduceCtorEq]
 intro b4
 refine loopO gM0_ok (pl := Tryz.pl89) Tryz.mix (X := Nat)
  (fun j => ([(3, .string (bs Q)), (4, .pointer (some ⟨b4, 0, none⟩)), (5, .int .i64 (136 * (j : Int)))], [⟨b4, 0, .cel 114, lnC (sumS Q j)⟩]))
  (fun j => j ≤ B) (fun j => B - j) 0 ?_ ?_ (by kernel_rfl) ?_
 · exact Nat.zero_le _
 · simp only [push_cast, seval, reduceCtorEq]
   try rfl
 · intro j hj
   have hS := sumS_ln Q j
   have hst : sumS Q (j + 1) = permK (abS (sumS Q j) ((Q.drop (136 * j)).take 136) 17) := rfl
   obtain ⟨p, hp⟩ : ∃ p, p = 136 * j := ⟨_, rfl⟩
   have ep : 136 * (j : Int) = (p : Int) := by omega
   rw [← hp] at hst
   obtain ⟨a, ha⟩ : ∃ a, a = sumS Q j := ⟨_, rfl⟩
   rw [← ha] at hS hst ⊢
   obtain ⟨bl, hbl⟩ : ∃ bl, bl = (Q.drop p).take 136 := ⟨_, rfl⟩
   rw [← hbl] at hst
   by_cases hc : j < B
   · have c1 : (p : Int) < (T : Int) := by omega
     simp only [push_cast, seval, reduceCtorEq, hsq, ep, c1]
     refine loopO gM0_ok (pl := Tryz.pl89) Tryz.mix (X := Nat)
      (fun i => ([(3, .string (bs Q)), (4, .pointer (some ⟨b4, 0, none⟩)), (5, .int .i64 p), (6, .int .i64 i)], [⟨b4, 0, .cel 114, lnC (abS a bl i)⟩]))
      (fun i => i ≤ 17) (fun i => 17 - i) 0 ?_ ?_ (by kernel_rfl) ?_
     · exact Nat.zero_le _
     · simp only [push_cast, seval, reduceCtorEq]
       try rfl
     · intro i hi
       have hA := abS_ln hS bl i
       by_cases hc2 : i < 17
       · have i1 : (i : Int) < 17 := by omega
         have i0 : (0 : Int) ≤ i := by omega
         have i2 : (i : Int) < 25 := by omega
         have i3 : i + 1 ≤ 25 := by omega
         have hsi : abS a bl (i + 1) = (abS a bl i).set i (xorN (ln (abS a bl i) i) (lowN ((bl.drop (8 * i)).take 8))) := rfl
         obtain ⟨A, hAe⟩ : ∃ A, A = abS a bl i := ⟨_, rfl⟩
         rw [← hAe] at hA hsi ⊢
         obtain ⟨u, hu⟩ : ∃ u, u = 8 * i := ⟨_, rfl⟩
         have e8 := blk_part (Q := Q) (p := p) (u := u) (by omega)
         rw [← hbl] at e8
         rw [← hu, e8] at hsi
         obtain ⟨m, hm⟩ : ∃ m, m = p + u := ⟨_, rfl⟩
         have hl0 : lowN ((Q.drop m).take 8) = lowS Q m 0 := rfl
         rw [← hm, hl0] at hsi
         have em : IntKind.i64.wrap ((p : Int) + 8 * (i : Int)) = (m : Int) := by
          rw [show (p : Int) + 8 * (i : Int) = (m : Int) by omega]; exact IntWalk.i64_in _ (by omega)
         simp only [push_cast, seval, reduceCtorEq, hsq, i1]
         refine loopO gM0_ok (pl := Tryz.pl89) Tryz.mix (X := Nat)
          (fun s => ([(3, .string (bs Q)), (4, .pointer (some ⟨b4, 0, none⟩)), (5, .int .i64 p), (6, .int .i64 i), (7, .int .u64 (lowS Q m s : Nat)), (8, .int .i64 ((s : Int) - 1))], [⟨b4, 0, .cel 114, lnC A⟩]))
          (fun s => s ≤ 8) (fun s => s) 8 ?_ ?_ (by kernel_rfl) ?_
         · exact Nat.le_refl _
         · rw [lowS_8]
           simp only [push_cast, seval, reduceCtorEq]
           try rfl
         · intro s hs
           dsimp only at hs ⊢
           rcases Nat.eq_zero_or_pos s with rfl | h0
           · have lA := hA.cl
             have hlo := lowS_lt Q m 0
             obtain ⟨x, hx⟩ : ∃ x, x = lowS Q m 0 := ⟨_, rfl⟩
             rw [← hx] at hlo hsi ⊢
             have a1 := lnC_at (a := A) (i := i) (by rw [hA.len]; omega)
             have a3 := xor_u64 (hA.at i) hlo
             have a4 := lnC_set (a := A) (i := i) (x := xorN (ln A i) x) (by rw [hA.len]; omega)
             rw [← hsi] at a4
             simp only [push_cast, seval, reduceCtorEq, i0, i1, i2, i3, lA, a1, a3, a4, wrap_i64' (show -9223372036854775808 ≤ (i : Int) + 1 ∧ (i : Int) + 1 ≤ 9223372036854775807 by omega)]
             exact ⟨i + 1, hc2, by omega, rfl, rfl⟩
           · obtain ⟨z, rfl⟩ : ∃ z, s = z + 1 := ⟨s - 1, by omega⟩
             have hj : ((z + 1 : Nat) : Int) - 1 = (z : Int) := by omega
             have z0 : (0 : Int) ≤ (z : Int) := by omega
             have z2 : (z : Int) ≥ 0 := by omega
             rw [hj]
             obtain ⟨q, hq⟩ : ∃ q, q = m + z := ⟨_, rfl⟩
             have hqT : q < Q.length := by omega
             have hls := lowS_s (Q := Q) (m := m) (z := z) (by omega) (by omega)
             have hlt := lowS_lt Q m z
             rw [← hq] at hls
             have a1 := bs_at4 hqT
             obtain ⟨y, hy⟩ : ∃ y, y = lowS Q m (z + 1) := ⟨_, rfl⟩
             obtain ⟨y2, hy2⟩ : ∃ y, y = lowS Q m z := ⟨_, rfl⟩
             rw [← hy] at hls ⊢
             rw [← hy2] at hls hlt
             obtain ⟨c, hc0⟩ : ∃ c, c = Q.getD q 0 := ⟨_, rfl⟩
             rw [← hc0] at hls a1
             obtain ⟨d, hd⟩ : ∃ d, d = c.toNat := ⟨_, rfl⟩
             have hd8 : d < 256 := hd ▸ c.toNat_lt
             rw [← hd] at hls
             have eq1 : IntKind.i64.wrap ((m : Int) + (z : Int)) = (q : Int) := by
              rw [show (m : Int) + (z : Int) = (q : Int) by omega]; exact IntWalk.i64_in _ (by omega)
             have q0 : (0 : Int) ≤ q := by omega
             have q1 : (q : Int) < (T : Int) := by omega
             have w1 : IntKind.u64.wrap (256 * (y : Int)) = 256 * (y : Int) := by rw [IntKind.wrap_u64]; omega
             have w2 : IntKind.u64.wrap (d : Int) = (d : Int) := by rw [IntKind.wrap_u64]; omega
             have w3 : IntKind.u64.wrap (256 * (y : Int) + (d : Int)) = (y2 : Int) := by rw [IntKind.wrap_u64]; omega
             simp only [push_cast, seval, reduceCtorEq, hsq, i1, z0, z2, w1, wrap_i64' (show -9223372036854775808 ≤ 8 * (i : Int) ∧ 8 * (i : Int) ≤ 9223372036854775807 by omega), em, eq1, q0, q1, a1, ← hd, w2, w3, wrap_i64' (show -9223372036854775808 ≤ (z : Int) - 1 ∧ (z : Int) - 1 ≤ 9223372036854775807 by omega)]
             exact ⟨z, by omega, by omega, by rw [hy2], rfl⟩
       · obtain rfl : i = 17 := by omega
         simp only [push_cast, seval, reduceCtorEq, hA.cl, lnC_take hA]
         refine (dperm_ok hA).pure trivial ?_
         rw [← hst]
         have hS2 := sumS_ln Q (j + 1)
         simp only [push_cast, seval, reduceCtorEq, hA.cl, hS2.cl, lnC_one, lnC_drop hA, List.append_nil, wrap_i64' (show -9223372036854775808 ≤ (p : Int) + 136 ∧ (p : Int) + 136 ≤ 9223372036854775807 by omega)]
         exact ⟨j + 1, hc, by omega, by rw [show (p : Int) + 136 = 136 * ((j + 1 : Nat) : Int) by omega], rfl⟩
   · obtain rfl : j = B := by omega
     have c1 : ¬ (p : Int) < (T : Int) := by omega
     rw [← ouL_32]
     simp only [push_cast, seval, reduceCtorEq, hsq, ep, c1]
     refine loopO gM0_ok (pl := Tryz.pl89) Tryz.mix (X := Nat × Value × Hp)
      (fun s => ([(4, .pointer (some ⟨b4, 0, none⟩)), (9, s.2.1), (10, .int .i64 s.1)], s.2.2 ++ [⟨b4, 0, .cel 114, lnC a⟩]))
      (fun s => s.1 ≤ 4 ∧ OutC 5 1 (byteV (ouL a (8 * s.1))) (8 * s.1) s.2.1 s.2.2 ∧ freshN s.2.2 [⟨b4, 0, .cel 114, lnC a⟩]) (fun s => 4 - s.1) (0, .slice none 0 0, []) ?_ ?_ (by kernel_rfl) ?_
     · exact ⟨Nat.zero_le _, .nil _ _, trivial⟩
     · simp only [push_cast, seval, reduceCtorEq]
       try exact subH_self _
     · rintro ⟨i, vo, No⟩ ⟨hi, ho, hf⟩
       dsimp only at hi ho hf ⊢
       obtain ⟨E, hE⟩ : ∃ e : Ent, e = ⟨b4, 0, .cel 114, lnC a⟩ := ⟨_, rfl⟩
       have fb0 : findE [E] b4 = some E := by rw [hE]; simp [findE]
       have Ek : E.kind = .cel 114 := by rw [hE]
       have Eo : E.off = 0 := by rw [hE]
       have Em : marksOf [E] = [] := by rw [hE]; rfl
       have El : E.cells.length = 25 := by rw [hE]; exact hS.cl
       have Ea : ∀ {i : Nat}, i < 25 → List.take 1 (List.drop i E.cells) = [.int .u64 (ln a i : Nat)] := fun h => by rw [hE]; exact lnC_at (by rw [hS.len]; exact h)
       rw [← hE] at hf ⊢
       have fb : findE (No ++ [E]) b4 = some E := by rw [findE_freshN hf fb0]; exact fb0
       by_cases hc : i < 4
       · have i1 : (i : Int) < 4 := by omega
         have i2 : (i : Int) < 25 := by omega
         have i3 : i + 1 ≤ 25 := by omega
         have a1 := Ea (i := i) (by omega)
         have hx := hS.at i
         have hou := fun (k : Nat) (h : k < 8) => ouL_at a (i := i) h
         obtain ⟨x, hx0⟩ : ∃ x, x = ln a i := ⟨_, rfl⟩
         rw [← hx0] at a1 hx hou
         simp only [push_cast, seval, reduceCtorEq, i1, i2, i3, fb, Ek, Eo, El, a1]
         refine loopO gM0_ok (pl := Tryz.pl89) Tryz.mix (X := Nat × Value × Hp)
          (fun s => ([(4, .pointer (some ⟨b4, 0, none⟩)), (9, s.2.1), (10, .int .i64 i), (11, .int .u64 (hvO x s.1 : Nat)), (12, .int .i64 s.1)], s.2.2 ++ [E]))
          (fun s => s.1 ≤ 8 ∧ OutC 5 1 (byteV (ouL a (8 * i + s.1))) (8 * i + s.1) s.2.1 s.2.2 ∧ freshN s.2.2 [E]) (fun s => 8 - s.1) (0, vo, No) ?_ ?_ (by kernel_rfl) ?_
         · exact ⟨Nat.zero_le _, ho, hf⟩
         · rw [hvO_0]
           simp only [push_cast, seval, reduceCtorEq]
           try exact subH_self _
         · rintro ⟨k, vi, Ni⟩ ⟨hk, hi2, hfi⟩
           dsimp only at hk hi2 hfi ⊢
           by_cases hc2 : k < 8
           · have k1 : (k : Int) < 8 := by omega
             have hst := hvO_s x k
             have hok := hou k hc2
             have hy64 : hvO x k < 18446744073709551616 := Nat.lt_of_le_of_lt (hvO_le _ _) hx
             obtain ⟨y, hy⟩ : ∃ y, y = hvO x k := ⟨_, rfl⟩
             obtain ⟨y2, hy2⟩ : ∃ y, y = hvO x (k + 1) := ⟨_, rfl⟩
             rw [← hy] at hst hok hy64 ⊢
             rw [← hy2] at hst
             obtain ⟨v, hv⟩ : ∃ v, v = y % 256 := ⟨_, rfl⟩
             rw [← hv] at hok
             have e1 : (y : Int).tmod 256 = (v : Int) := by rw [hv]; rfl
             have e2 : (y : Int).tdiv 256 = (y2 : Int) := by rw [hst]; rfl
             have w1 : IntKind.u64.wrap (v : Int) = (v : Int) := by rw [IntKind.wrap_u64]; omega
             have w3 : IntKind.u8.wrap (v : Int) = (v : Int) := by rw [IntKind.wrap_u8]; omega
             have w2 : IntKind.u64.wrap (y2 : Int) = (y2 : Int) := by rw [IntKind.wrap_u64]; omega
             have hv2 : (UInt8.ofNat v).toNat = v := by
              have : v < 256 := by rw [hv]; exact Nat.mod_lt _ (by decide)
              simp [Nat.mod_eq_of_lt this]
             obtain ⟨q, hq⟩ : ∃ q, q = 8 * i + k := ⟨_, rfl⟩
             rw [← hq] at hok hi2
             simp only [push_cast, seval, reduceCtorEq, i1, k1, e1, e2, w1, w2, w3]
             intro b10 hb10
             refine append_out1 (e := 5) (sz := 1) (by_ := 1) (n := q) (m := 1) (ys := [.int .u8 (v : Nat)]) hi2 hb10 (by simp only [push_cast, seval, reduceCtorEq]) (by simp only [push_cast, seval, reduceCtorEq]) rfl rfl (by unfold two47; omega) fun v' N' ho' hf' => ?_
             simp only [push_cast, seval, reduceCtorEq, e2, w2, wrap_i64' (show -9223372036854775808 ≤ (k : Int) + 1 ∧ (k : Int) + 1 ≤ 9223372036854775807 by omega)]
             refine ⟨(k + 1, v', N'), ⟨hc2, ?_, freshN_cons hf'⟩, by dsimp only; omega, ⟨rfl, by rw [hy2], rfl⟩, subH_pre (subH_cons (fresh_app hb10)) _, ?_⟩
             · dsimp only
               rw [show 8 * i + (k + 1) = q + 1 by omega, hok]
               have e3 : byteV (ouL a q ++ [UInt8.ofNat v]) = byteV (ouL a q) ++ [.int .u8 (v : Nat)] := by
                unfold byteV
                rw [List.map_append, List.map_cons, List.map_nil, hv2]
               rw [e3]
               exact ho'
             · simp only [marks_append, marksOf, hi2.wr.2, ho'.wr.2]
           · obtain rfl : k = 8 := by omega
             simp only [push_cast, seval, reduceCtorEq, i1, wrap_i64' (show -9223372036854775808 ≤ (i : Int) + 1 ∧ (i : Int) + 1 ≤ 9223372036854775807 by omega)]
             refine ⟨(i + 1, vi, Ni), ⟨hc, ?_, hfi⟩, by dsimp only; omega, ⟨rfl, rfl⟩, subH_self _, rfl⟩
             dsimp only
             rw [show 8 * (i + 1) = 8 * i + 8 by omega]
             exact hi2
       · obtain rfl : i = 4 := by omega
         obtain ⟨bo, co, rfl, hco, -, rfl⟩ := ho.pos (by decide)
         have lo : (byteV (ouL a 32)).length = 32 := by rw [byV_len, ouL_len]
         simp only [push_cast, seval, reduceCtorEq, lo, (List.take_of_length_le (Nat.le_of_eq lo) : List.take 32 (byteV (ouL a 32)) = _), bytesOf_byteV, bs_mk]
         rw [ha]
theorem dsum_ok (l : List UInt8) (hl : l.length ≤ 1048576) : CallsV Tryz.prog 59 [.string (bs l)] [] (Ret0 (.tuple #[.string (bs (keccK l)), .int .i64 0])) := by
 have hz := bs_size l
 have h1 : ¬ (1048576 : Int) < (l.length : Int) := by omega
 refine callsO gM0_ok Tryz.mix Tryz.pl59 Tryz.func59 rfl Tryz.ntmps59 Tryz.results59 rfl (by first | rfl | assumption) (Nat.le_of_ble_eq_true rfl) (by kernel_rfl) ?_
 simp only [push_cast, seval, reduceCtorEq, h1]
 refine (dhash_ok l (by omega)).pure trivial ?_
 simp only [push_cast, seval, reduceCtorEq]
end Go.Proofs.YtpcjmmdgopihcaaGreatDoor
namespace Go.Ev
inductive IvOk (M : Hp) : Iv → Prop
 | mk (x : Iv) (h1 : LiR Iv.cells 3 M x.kids x.sv) (h2 : x.kids.length ≤ 1099511627776) (h3 : ∀ k ∈ x.kids, IvOk M k) : IvOk M x
theorem IvOk.li {M : Hp} {x : Iv} (h : IvOk M x) : LiR Iv.cells 3 M x.kids x.sv := by cases h; assumption
theorem IvOk.len {M : Hp} {x : Iv} (h : IvOk M x) : x.kids.length ≤ 1099511627776 := by cases h; assumption
theorem IvOk.kid {M : Hp} {x : Iv} (h : IvOk M x) : ∀ k ∈ x.kids, IvOk M k := by cases h; assumption
theorem IvOk.congr {A B : Hp} (he : cellsAt A = cellsAt B) {x : Iv} (h : IvOk A x) : IvOk B x := by
 induction h with
 | mk x h1 h2 h3 ih => exact .mk x (h1.congr he) h2 ih
theorem IvOk.ext {A B : Hp} (he : Ext A B) {x : Iv} (h : IvOk A x) : IvOk B x := by
 induction h with
 | mk x h1 h2 h3 ih => exact .mk x (h1.ext he) h2 ih
theorem IvOk.text (M : Hp) (l : List UInt8) (b : Bool) (k : Nat) : IvOk M (.mk b l (.slice none 0 k) []) := .mk _ (LiR.nil _ _) (Nat.zero_le _) fun k hk => by cases hk
theorem subH_frontN (M : Hp) : ∀ (L : Hp), subH (L ++ M) L
 | [] => trivial
 | e :: r => by
   refine ⟨by simp [findE], ?_⟩
   simp only [List.cons_append, remE, if_true]
   exact subH_frontN M r
theorem Iv.all1 {x : Iv} (h : oneC x.sv = true) : x.cells.all oneC = true := by
 show (oneC (.bool x.list) && (oneC (.string (bs x.bytes)) && (oneC x.sv && true))) = true
 rw [h]; rfl
theorem encL_kids (x : It) (h : x.list = true) : encL x = headL 192 (encLs x.kids).length ++ encLs x.kids := by
 cases x with
 | mk l b ks =>
   have h : l = true := h
   subst h
   rw [encL]; rfl
theorem encL_text (x : It) (h : x.list = false) : encL x = textL x.bytes := by
 cases x with
 | mk l b ks =>
   have h : l = false := h
   subst h
   rw [encL]; rfl
theorem encLs_take (ks : List It) {i : Nat} {k : It} (h : ks[i]? = some k) : encLs (ks.take (i + 1)) = encLs (ks.take i) ++ encL k := by
 rw [encLs_flat, encLs_flat, List.take_add_one, h, List.map_append, List.flatten_append]
 simp
theorem encLs_le (ks : List It) (i : Nat) : (encLs (ks.take i)).length ≤ (encLs ks).length := by
 conv => rhs; rw [← List.take_append_drop i ks]
 rw [encLs_flat, encLs_flat, List.map_append, List.flatten_append, List.length_append]
 omega
theorem encLs_mem {ks : List It} {k : It} (h : k ∈ ks) : (encL k).length ≤ (encLs ks).length := by
 induction ks with
 | nil => cases h
 | cons y r ih =>
   rw [encLs, List.length_append]
   rcases List.mem_cons.1 h with rfl | h
   · omega
   · have := ih h; omega
end Go.Ev
namespace Go.Proofs.YtpcjmmdgopihcaaGreatDoor
open Go Go.Ev Go.Proofs
theorem itemIter {Hc : Hp} {ks : List Iv} {b1 : Nat} {k1 : Kind} {sv : Value} {cs0 : List Value} (hn : ks.length ≤ 1099511627776) (hmc : marksOf Hc = []) (h1 : findE Hc b1 = some ⟨b1, 0, k1, sv :: cs0⟩) (h2 : LiR Iv.cells 3 Hc ks sv) (hs : ∀ k ∈ ks, oneC k.sv = true) :
  IterV Tryz.prog 124 [.pointer (some ⟨b1, 0, none⟩)] Hc (ks.map fun k => [k.v]) := by
 obtain ⟨p, c, rfl, hla⟩ := h2.openC Iv.len (by decide)
 refine ⟨enterO Tryz.func124 rfl rfl, fun X Ho I St l x0 hro hmk h0 hy => ?_⟩
 have hmarks : ∀ x, marksOf (Hc ++ Ho x) = [] := fun x => by rw [marks_append, hmc, hmk]; rfl
 have hm0 := hmarks x0
 have h1' := fun z => findE_appT (B := Ho z) h1
 have l1 : 1 ≤ cs0.length + 1 := by omega
 have yl : ∀ (j : Nat) (z : X) (k : Iv) (e : Ent) (K' : Value → Hp → Prop), ks[j]? = some k → I j z → marksOf [e] = [] → (∀ x', I (j + 1) x' → K' (.bool true) (Hc ++ (Ho x' ++ [e]))) → (∀ x', St x' → K' (.bool false) (Hc ++ (Ho x' ++ [e]))) → YieldV Tryz.prog l [k.v] (e :: (Hc ++ Ho z)) K' := fun j z k e K' hj hi hme ht hf => by
  refine (hy j z [k.v] (by rw [List.getElem?_map, hj]; rfl) hi).frame2 ?_ hme ?_
  · rintro v H' (⟨rfl, x', _, rfl⟩ | ⟨rfl, x', _, rfl⟩) <;> exact hro z x'
  · rintro v H' (⟨rfl, x', h, rfl⟩ | ⟨rfl, x', h, rfl⟩)
    · exact ht x' h
    · exact hf x' h
 obtain ⟨vs, hvs⟩ : ∃ vs, vs = ks.map fun k => [k.v] := ⟨_, rfl⟩
 have hvl : vs.length = ks.length := by rw [hvs]; simp
 have yf : ∀ (x' : X), (I vs.length x' ∨ St x') → ∃ H'_1, List.Sublist H'_1 (dropM (Hc ++ Ho x')) ∧ ∃ z, (I vs.length z ∨ St z) ∧ H'_1 = Ho z := fun x' hst => by
  refine ⟨Ho x', ?_, x', hst, rfl⟩
  rw [dropM_eq (hmarks x')]
  exact List.sublist_append_right _ _
 have yf2 : ∀ (x' : X) (e : Ent), marksOf [e] = [] → (I vs.length x' ∨ St x') → ∃ H'_1, List.Sublist H'_1 (dropM (Hc ++ (Ho x' ++ [e]))) ∧ ∃ z, (I vs.length z ∨ St z) ∧ H'_1 = Ho z := fun x' e he hst => by
  refine ⟨Ho x', ?_, x', hst, rfl⟩
  rw [← List.append_assoc, dropM_eq (by rw [marks_append, hmarks, he]; rfl)]
  exact (List.sublist_append_right _ _).trans (List.sublist_append_left _ _)
 rw [← hvs]
 refine callsO gN2_ok Tryz.mix Tryz.pl124 Tryz.func124 rfl Tryz.ntmps124 Tryz.results124 rfl (by first | rfl | assumption) (Nat.le_of_ble_eq_true rfl) (by kernel_rfl) ?_
 simp only [push_cast, seval, reduceCtorEq, h1', l1]
 refine loopO gN2_ok (pl := Tryz.pl124) Tryz.mix (X := Nat × X)
  (fun s => ([(0, .func (.yield l) #[] #[]), (5, .slice p ks.length c), (6, .int .i64 ks.length), (7, .int .i64 s.1)], Hc ++ Ho s.2))
  (fun s => s.1 ≤ ks.length ∧ I s.1 s.2) (fun s => ks.length - s.1) (0, x0) ?_ ?_ (by kernel_rfl) ?_
 · exact ⟨Nat.zero_le _, h0⟩
 · simp only [push_cast, seval, reduceCtorEq, hm0, subH_self]
 · rintro ⟨i, z⟩ ⟨hi, hI⟩
   dsimp only at hi hI ⊢
   rcases Nat.lt_or_ge i ks.length with hlt | hge
   · obtain ⟨k, hk⟩ : ∃ k, ks[i]? = some k := ⟨ks[i], List.getElem?_eq_getElem hlt⟩
     rcases hla with rfl | ⟨b, f, d, kd, cs, rfl, he, hat⟩
     · simp at hk
     obtain ⟨a1, a2⟩ := hat i k hk
     have hee := fun x => findE_appT (B := Ho x) he
     have i1 : (i : Int) < (ks.length : Int) := by omega
     have kc : k.cells.all oneC = true := Iv.all1 (hs k (List.mem_of_getElem? hk))
     have k3 : List.take 3 k.cells = k.cells := List.take_of_length_le (Nat.le_of_eq rfl)
     have kv : Value.agg k.cells.toArray = k.v := rfl
     simp only [push_cast, seval, reduceCtorEq, h1', l1, i1, hlt, hee, a1, a2, kc, Iv.len, k3]
     intro b4 hb4
     refine yl i z k ⟨b4, 0, .cel 90, k.cells⟩ _ hk hI rfl (fun x' hx' => ?_) (fun x' hx' => ?_)
     · simp only [push_cast, seval, reduceCtorEq, wrap_i64' (show -9223372036854775808 ≤ (i : Int) + 1 ∧ (i : Int) + 1 ≤ 9223372036854775807 by omega)]
       refine ⟨(i + 1, x'), ⟨hlt, hx'⟩, by dsimp only; omega, ⟨rfl, ?_, ?_⟩⟩
       · rw [← List.append_assoc]; exact subH_frontN _ _
       · rw [← List.append_assoc, marks_append (Hc ++ Ho x')]; simp [marksOf]
     · simp only [push_cast, seval, reduceCtorEq]
       exact yf2 x' _ rfl (.inr hx')
   · obtain rfl : i = ks.length := by omega
     simp only [push_cast, seval, reduceCtorEq, h1', l1, Nat.lt_irrefl, Int.lt_irrefl]
     exact yf z (.inl (by rw [hvl]; exact hI))
end Go.Proofs.YtpcjmmdgopihcaaGreatDoor
namespace Go.Ev
theorem roM.dupN {P : Program} {r : Option Nat} {n : Nat} {c : Code} {K : Exit → Tm → Hp → Prop} {T : Tm} {L M : Hp} (hr : roM M) (hL : freshN L M) (h : WpV P r n c K T (M ++ (L ++ M))) : WpV P r n c K T (L ++ M) := by
 intro w0 mu a w hro ht hs hd
 have hder := derE_mem hr.der
 have hk : ∀ e ∈ M, ¬ e.wr := fun e he hw => by unfold Ent.wr at hw; rw [(hder e he).1] at hw; exact hw
 obtain ⟨p1, p2, p3⟩ := List.pairwise_append.1 hs.apart
 refine h w0 mu a w hro ht ⟨hs.os, hs.tape, hs.output, hs.size, hs.old, fun e he => ?_, fun e he hw => ?_, List.pairwise_append.2 ⟨p2, hs.apart, fun x hx y hy hw => ?_⟩⟩ (by rw [hd]; unfold defersOf; rw [marks_append M, hr.marks]; rfl)
 · rcases List.mem_append.1 he with he | he
   · exact hs.ents e (List.mem_append_right L he)
   · exact hs.ents e he
 · rcases List.mem_append.1 he with he | he
   · exact absurd hw (hk e he)
   · exact hs.own e he hw
 · rcases List.mem_append.1 hy with hy | hy
   · exact (p3 y hy x hx (hw.symm)).symm
   · exact absurd hw (fun hw => hw.elim (hk x hx) (hk y hy))
theorem CallsV.preN {P : Program} {g : FuncId} {args : List Value} {H H' : Hp} {K : Value → Hp → Prop} (hp : H.Perm H') (hm : marksOf H' = marksOf H) (hc : CallsV P g args H' K) : CallsV P g args H K :=
 ⟨hc.1, fun w0 mu w hs => by have := hc.2 w0 mu w (hs.perm hp); rwa [hm] at this⟩
theorem find_behindN {L M : Hp} (hL : freshN L M) : ∀ b e, findE M b = some e → findE (L ++ M) b = some e := fun b e he => by rw [findE_freshN hL he]; exact he
theorem OutC.solid {e s n : Nat} {cs : List Value} {v : Value} {N : Hp} (h : OutC e s cs n v N) : ∀ x ∈ N, x.kind.solid = true := by
 rcases h with ⟨-, -, -, rfl⟩ | ⟨g, c, -, -, -, -, rfl⟩
 · intro x hx; cases hx
 · intro x hx; rw [List.mem_singleton.1 hx]; rfl
theorem cellsAt_open1 {M : Hp} {b : Nat} {v : Value} (h : cellsAt M b 0 1 = some [v]) : ∃ kd cs, findE M b = some ⟨b, 0, kd, v :: cs⟩ := by
 unfold cellsAt at h
 cases he : findE M b with
 | none => rw [he] at h; cases h
 | some e =>
   rw [he] at h
   have hb := (findE_mem he).2
   obtain ⟨b, f, kd, cs⟩ := e
   dsimp only at hb h
   subst hb
   by_cases hf : f ≤ 0
   · obtain rfl := Nat.le_zero.1 hf
     rw [if_pos hf] at h
     unfold subL at h
     split at h
     · have := Option.some.inj h
       rw [Nat.sub_self, List.drop_zero] at this
       cases cs with
       | nil => cases this
       | cons x r => injection this with h1; subst h1; exact ⟨kd, r, rfl⟩
     · cases h
   · rw [if_neg hf] at h; cases h
end Go.Ev
namespace Go.Proofs.YtpcjmmdgopihcaaGreatDoor
open Go Go.Ev Go.Proofs
theorem valuesN_ok (p : Option Addr) (n c : Nat) : CallsV Tryz.prog 102 [.slice p n c] [] (fun v N => ∃ b, v = .func (.func 124) #[] #[.pointer (some ⟨b, 0, none⟩)] ∧ N = [⟨b, 0, .cel 88, [.slice p n c]⟩]) := by
 refine callsO gN3_ok Tryz.mix Tryz.pl102 Tryz.func102 rfl Tryz.ntmps102 Tryz.results102 rfl (by first | rfl | assumption) (Nat.le_of_ble_eq_true rfl) (by kernel_rfl) ?_
 simp only [push_cast, seval, reduceCtorEq]
 intro b
 try simp only [push_cast, seval, reduceCtorEq]
 exact ⟨[_], List.Sublist.refl _, b, rfl, rfl⟩
theorem join_ok {M0 : Hp} (hr : roM M0) {ks : List Iv} {sv : Value} {b1 : Nat} {k1 : Kind} {cs0 : List Value} (h1 : findE M0 b1 = some ⟨b1, 0, k1, sv :: cs0⟩) (h2 : LiR Iv.cells 3 M0 ks sv) (hn : ks.length ≤ 1099511627776) (hs : ∀ k ∈ ks, IvOk M0 k)
  (henc : ∀ k ∈ ks, ∀ M1, roM M1 → IvOk M1 k → CallsV Tryz.prog 72 [k.v] M1 (Ret0 (.string (bs (encL k.it))))) (hlen : (encLs (ks.map Iv.it)).length ≤ 1099511627776) :
  CallsV Tryz.prog 101 [.func (.func 124) #[] #[.pointer (some ⟨b1, 0, none⟩)], .func (.func 72) #[] #[]] M0 (Ret0 (.string (bs (encLs (ks.map Iv.it))))) := by
 have hm := hr.marks
 obtain ⟨R, hR⟩ : ∃ R, R = bs (encLs (ks.map Iv.it)) := ⟨_, rfl⟩
 rw [← hR]
 have hit := itemIter hn hm h1 h2 (fun k hk => by obtain ⟨p, c, he, -⟩ := (hs k hk).li; rw [he]; rfl)
 refine callsO gN3_ok Tryz.mix Tryz.pl101 Tryz.func101 rfl Tryz.ntmps101 Tryz.results101 rfl (by first | rfl | assumption) (Nat.le_of_ble_eq_true rfl) (by kernel_rfl) ?_
 simp only [push_cast, seval, reduceCtorEq]
 intro b3 hb3 b5 hb5
 try simp only [push_cast, seval, reduceCtorEq, hb3, hb5]
 have f3 : fresh b3 M0 := hb3
 have f5 : fresh b5 M0 := hb5.2.2
 refine roM.dupN (M := M0) (L := [_, _]) hr ⟨f5, f3, trivial⟩ ?_
 obtain ⟨B3, hB3⟩ : ∃ B : Ent, B = ⟨b3, 0, .cel 107, [.func (.func 72) #[] #[]]⟩ := ⟨_, rfl⟩
 have hroM : ∀ x y : BldX, ∀ e ∈ bldH b5 y ++ (B3 :: M0), e.wr ∨ e ∈ bldH b5 x ++ (B3 :: M0) := fun x y e he => by
  rcases List.mem_append.1 he with h | h
  · exact .inl (bldH_wr b5 y e h)
  · exact .inr (List.mem_append_right _ h)
 have hmk : ∀ x : BldX, marksOf (bldH b5 x ++ (B3 :: M0)) = [] := fun x => by rw [marks_append, bldH_marks, hB3]; simp [marksOf, hm]
 refine rangeO gN3_ok (pl := Tryz.pl101) Tryz.mix (Hc := M0) (Hm := []) hit rfl
  (X := BldX) (fun s => bldH b5 s ++ (B3 :: M0))
  (fun k s => (s.1.1 = .pointer none ∨ s.1.1 = .pointer (some ⟨b5, 0, none⟩)) ∧ OutC 5 1 (byteV (encLs ((ks.map Iv.it).take k))) (encLs ((ks.map Iv.it).take k)).length s.1.2.1 s.1.2.2 ∧ freshN s.1.2.2 [⟨b5, 0, .cel 152, [s.1.1, s.1.2.1]⟩] ∧ freshN (bldH b5 s) (B3 :: M0)) (fun _ _ => False) ⟨(.pointer none, .slice none 0 0, []), trivial, rfl⟩
  ?_ ?_ ?_ hm (by simp) hmk hroM ?_ (by kernel_rfl) (by kernel_rfl) (fun _ _ h => h.elim) ?_ ?_ (fun _ _ _ _ h => h.elim)
 · refine ⟨.inl rfl, by rw [List.take_zero]; simp only [encLs]; exact OutC.nil _ _, trivial, ?_⟩
   rw [hB3]
   exact ⟨by simp only [push_cast, seval, reduceCtorEq, hb5, f5], trivial⟩
 · rw [hB3]
   exact subH_self _
 · simp [marksOf, marks_append, hm]
 · intro args ha
   obtain ⟨z, _, rfl⟩ := List.mem_map.1 ha
   rfl
 · rintro lo k s args hk ⟨hp, ho, hf, hfM⟩
   obtain ⟨x, hx, rfl⟩ := Option.map_eq_some_iff.1 ((List.getElem?_map ..).symm.trans hk)
   have hxm := List.mem_of_getElem? hx
   have hxi : (ks.map Iv.it)[k]? = some x.it := by rw [List.getElem?_map, hx]; rfl
   have htk := encLs_take (ks.map Iv.it) hxi
   have hle := encLs_le (ks.map Iv.it) (k + 1)
   rw [htk, List.length_append] at hle
   have hmk' := hmk s
   have xall : x.cells.all oneC = true := Iv.all1 (by obtain ⟨p, c, he, -⟩ := (hs x hxm).li; rw [he]; rfl)
   have x3 : List.take 3 x.cells = x.cells := List.take_of_length_le (Nat.le_of_eq rfl)
   have xv : x.v.cells.toList = x.cells := rfl
   generalize hRK : (roundK _ _ _ k : Exit → Tm → Hp → Prop) = RK
   show oC _ _ _ _ _ _ _ (parT 14 _ _ [x.v]) _
   have hf3 : findE (bldH b5 s ++ (B3 :: M0)) b3 = some ⟨b3, 0, .cel 107, [.func (.func 72) #[] #[]]⟩ := find_behindN hfM b3 _ (by rw [hB3]; simp only [push_cast, seval, reduceCtorEq])
   simp only [push_cast, seval, reduceCtorEq, hmk', xall, x3, Iv.len, xv]
   intro b6 hb6
   have d36 := (fresh_findS hb6 hf3).2
   have f6 : fresh b6 (B3 :: M0) := fresh_app hb6
   simp only [push_cast, seval, reduceCtorEq, hf3, d36]
   rw [show (⟨b6, 0, .cel 90, x.cells⟩ :: (bldH b5 s ++ B3 :: M0) : Hp) = (⟨b6, 0, .cel 90, x.cells⟩ :: (bldH b5 s ++ [B3])) ++ M0 by simp]
   refine useP (v := .string (bs (encL x.it))) _ (fun M1 hr1 he1 => henc x hxm M1 hr1 ((hs x hxm).congr he1.symm)) ?_ ?_
   · exact ⟨f6.2.2, freshN_appL.2 ⟨freshN_cons hfM, by rw [hB3]; exact f3, trivial⟩⟩
   rw [show (⟨b6, 0, .cel 90, x.cells⟩ :: (bldH b5 s ++ [B3])) ++ M0 = (⟨b6, 0, .cel 90, x.cells⟩ :: (bldH b5 s ++ B3 :: M0) : Hp) by simp]
   simp only [push_cast, seval, reduceCtorEq]
   refine CallsV.preN (H' := bldH b5 s ++ (⟨b6, 0, .cel 90, x.cells⟩ :: B3 :: M0)) List.perm_middle.symm (by simp [marks_append, marksOf]) ?_
   refine CallsV.useMs (Hw := bldH b5 s) (Hf := []) (by rw [List.append_nil]; exact write_ok b5 s.1.1 s.1.2.1 hp _ _ ho hf (bs (encL x.it)) (by rw [bs_size]; omega)) ?_ trivial ?_
   · intro e he
     rcases List.mem_append.1 he with h | h
     · exact ho.solid e h
     · rw [List.mem_singleton.1 h]; rfl
   · rintro v N ⟨rfl, v', N', ho', hf', rfl⟩
     refine ⟨allWr_app ho'.wr.1 ⟨trivial, trivial⟩, by rw [marks_append, ho'.wr.2]; rfl, fun hfN => ?_⟩
     rw [bs_data, ← htk] at ho'
     simp only [push_cast, seval, reduceCtorEq]
     rw [← hRK]
     refine ⟨⟨(.pointer (some ⟨b5, 0, none⟩), v', N'), ho'.wr⟩, ⟨.inr rfl, ho', hf', freshN_cons hfN⟩, ?_⟩
     show subH _ (bldH b5 _ ++ _)
     unfold bldH
     rw [List.append_assoc]
     exact subH_pre (subH_pre (subH_cons f6) [_]) N'
 · rintro D s hfD ⟨hp, ho, hf, hfM⟩
   have hmk' := hmk s
   rw [List.length_map, ← List.length_map (f := Iv.it), List.take_length] at ho
   simp only [push_cast, seval, reduceCtorEq]
   refine CallsV.preN (H' := bldH b5 s ++ (⟨D, 0, .obj (.deferred (some [])), []⟩ :: B3 :: M0)) List.perm_middle.symm (by simp [marks_append, marksOf, bldH_marks]) ?_
   refine CallsV.useMs (Hw := bldH b5 s) (Hf := []) (by rw [List.append_nil]; exact string_ok b5 s.1.1 s.1.2.1 (encLs (ks.map Iv.it)) (by omega) _ ho hf) ?_ trivial ?_
   · intro e he
     rcases List.mem_append.1 he with h | h
     · exact ho.solid e h
     · rw [List.mem_singleton.1 h]; rfl
   · rintro v N ⟨rfl, rfl⟩
     refine ⟨trivial, rfl, fun _ => ?_⟩
     simp only [push_cast, seval, reduceCtorEq]
     rw [hR]; rfl
end Go.Proofs.YtpcjmmdgopihcaaGreatDoor
namespace Go.Ev
theorem textL_one {c : UInt8} (h : c.toNat < 128) : textL [c] = [c] := by unfold textL; dsimp only; rw [if_pos h]
theorem textL_long {l : List UInt8} (h : ∀ c, l = [c] → ¬ c.toNat < 128) : textL l = headL 128 l.length ++ l := by
 unfold textL
 split
 · rename_i c; rw [if_neg (h c rfl)]; rfl
 · rfl
theorem Iv.drop2 (x : Iv) : List.take 1 (List.drop 2 x.cells) = [x.sv] := rfl
end Go.Ev
namespace Go.Proofs.YtpcjmmdgopihcaaGreatDoor
open Go Go.Ev Go.Proofs
theorem encode_ok (x : Iv) : ∀ M0, roM M0 → IvOk M0 x → (encL x.it).length ≤ 1099511627776 → CallsV Tryz.prog 72 [x.v] M0 (Ret0 (.string (bs (encL x.it)))) := by
 induction x using Iv.ind with
 | h x ih =>
   intro M0 hr hx hlen
   have hm := hr.marks
   have hil := Iv.it_list x
   have hib := Iv.it_bytes x
   have hik := Iv.it_kids x
   have hv : x.v = .agg #[.bool x.list, .string (bs x.bytes), x.sv] := rfl
   rw [hv]
   obtain ⟨p, c, hsv, -⟩ := id hx.li
   obtain ⟨R, hR⟩ : ∃ R, R = bs (encL x.it) := ⟨_, rfl⟩
   rw [← hR]
   refine callsO gN3_ok Tryz.mix Tryz.pl72 Tryz.func72 rfl Tryz.ntmps72 Tryz.results72 rfl (by first | rfl | assumption) (Nat.le_of_ble_eq_true rfl) (by kernel_rfl) ?_
   simp only [push_cast, seval, reduceCtorEq, hsv]
   intro b1 hb1
   have hr1 : ∀ M1, roM M1 → cellsAt M1 = cellsAt M0 → IvOk M1 x := fun M1 _ he => hx.congr he.symm
   cases hl : x.list with
   | true =>
     rw [encL_kids _ (by rw [hil]; exact hl)] at hR hlen
     rw [hik] at hR hlen
     rw [List.length_append] at hlen
     simp only [push_cast, seval, reduceCtorEq]
     refine (valuesN_ok p x.kids.length c).use trivial ?_
     rintro _ _ ⟨b, rfl, rfl⟩
     refine ⟨⟨trivial, trivial⟩, rfl, fun hfn => ?_⟩
     simp only [push_cast, seval, reduceCtorEq] at hfn
     try simp only [push_cast, seval, reduceCtorEq, hfn]
     refine CallsV.preN (H' := [⟨b1, 0, .cel 90, [.bool true, .string (bs x.bytes), .slice p x.kids.length c]⟩] ++ (⟨b, 0, .cel 88, [.slice p x.kids.length c]⟩ :: M0)) (List.Perm.swap ..) (by simp [marksOf]) ?_
     have hxt : Ext M0 (⟨b, 0, .cel 88, [.slice p x.kids.length c]⟩ :: M0) := Ext.cons hm rfl hfn.2.2
     refine useP [_] (M := ⟨b, 0, .cel 88, [.slice p x.kids.length c]⟩ :: M0) (v := .string (bs (encLs (x.kids.map Iv.it)))) (fun M1 hr1 he1 => ?_) ?_ ?_
     · have hx1 : IvOk M1 x := (hx.ext hxt).congr he1.symm
       obtain ⟨kd, cs0, hf1⟩ := cellsAt_open1 (M := M1) (b := b) (v := .slice p x.kids.length c) (by rw [he1]; simp only [push_cast, seval, reduceCtorEq])
       exact join_ok hr1 hf1 (by rw [← hsv]; exact hx1.li) hx1.len hx1.kid (fun k hk M2 hr2 hk2 => ih k hk M2 hr2 hk2 (by have := encLs_mem (List.mem_map_of_mem (f := Iv.it) hk); omega)) (by omega)
     · exact ⟨⟨hfn.2.1, hfn.1, hb1⟩, trivial⟩
     obtain ⟨S, hS⟩ : ∃ S, S = encLs (x.kids.map Iv.it) := ⟨_, rfl⟩
     rw [← hS] at hR hlen ⊢
     have c1 : ((0 : Int) ≤ (S.length : Int)) := by omega
     have c2 : (S.length : Int) ≤ 1099511627776 := by omega
     have hcat : catB (headK 192 (S.length : Int)) (bs S) = some (.string R) := by
      rw [show headK 192 (S.length : Int) = bs (headL 192 S.length) from headK_eq 192 S.length, ncatB _ _ (by omega), hR]
     simp only [push_cast, seval, reduceCtorEq, c1, c2, hcat]
   | false =>
     rw [encL_text _ (by rw [hil]; exact hl)] at hR hlen
     rw [hib] at hR hlen
     obtain ⟨B, hB⟩ : ∃ B, B = x.bytes := ⟨_, rfl⟩
     rw [← hB] at hR hlen ⊢
     have long : (∀ c, B = [c] → ¬ c.toNat < 128) → B.length ≤ 1099511627776 ∧ catB (headK 128 (B.length : Int)) (bs B) = some (.string R) := fun h => by
      rw [textL_long h] at hR hlen
      rw [List.length_append] at hlen
      refine ⟨by omega, ?_⟩
      rw [show headK 128 (B.length : Int) = bs (headL 128 B.length) from headK_eq 128 B.length, ncatB _ _ (by omega), hR]
     by_cases h1 : B.length = 1
     · obtain ⟨c, rfl⟩ := List.length_eq_one_iff.1 h1
       have b0 : (bs [c]).data[0]? = some c := rfl
       have e2 : ([c] : List UInt8).length = 1 := rfl
       by_cases hc : c.toNat < 128
       · rw [textL_one hc] at hR
         have c1 : (c.toNat : Int) < 128 := by omega
         simp only [push_cast, seval, reduceCtorEq, b0, e2, c1, hc]
         rw [hR]
       · have c1 : ¬ (c.toNat : Int) < 128 := by omega
         obtain ⟨l1, l2⟩ := long (fun d hd => by injection hd with hd; subst hd; exact hc)
         have l3 : catB (headK 128 1) (bs [c]) = some (.string R) := l2
         simp only [push_cast, seval, reduceCtorEq, b0, e2, c1, hc, l3]
     · have c1 : ((B.length : Int) == 1) = false := by rw [beq_eq_false_iff_ne]; omega
       obtain ⟨l1, l2⟩ := long (fun d hd => by rw [hd] at h1; exact absurd rfl h1)
       have c2 : (0 : Int) ≤ (B.length : Int) := by omega
       have c3 : (B.length : Int) ≤ 1099511627776 := by omega
       simp only [push_cast, seval, reduceCtorEq, c1, c2, c3, l2]
end Go.Proofs.YtpcjmmdgopihcaaGreatDoor
namespace Go.Ev
def roE (e : Ent) : Ent := { e with kind := .ro }
theorem Ent.cel_ro {w : World} {b : Nat} {t : TypeId} {cs : List Value} (h : (⟨b, 0, .cel t, cs⟩ : Ent).holds w) : (⟨b, 0, .ro, cs⟩ : Ent).holds w := by
 obtain ⟨-, h⟩ := h
 refine ⟨(Array.getElem?_eq_some_iff.1 h).1, fun k v hk => ?_⟩
 dsimp only at hk h ⊢
 simp only [World.cell?, h, Option.isSome_none, Bool.false_eq_true, if_false]
 simpa using hk
theorem marks_nobj : ∀ {A : Hp}, (∀ e ∈ A, ∃ t, e.kind = .cel t) → marksOf A = []
 | [], _ => rfl
 | x :: r, h => by
   obtain ⟨t, ht⟩ := h x (by simp)
   simp only [marksOf, ht]
   exact marks_nobj fun e he => h e (by simp [he])
theorem marks_ro2 : ∀ (A : Hp), marksOf (A.map roE) = []
 | [] => rfl
 | x :: r => by simp only [List.map_cons, roE, marksOf]; exact marks_ro2 r
theorem Sat.toRo {w0 w : World} {mu : Nat → Prop} {A H : Hp} (hA : ∀ e ∈ A, e.off = 0 ∧ ∃ t, e.kind = .cel t) (hs : Sat w0 mu (A ++ H) w) : Sat w0 mu (A.map roE ++ H) w := by
 obtain ⟨p1, p2, p3⟩ := List.pairwise_append.1 hs.apart
 refine ⟨hs.os, hs.tape, hs.output, hs.size, hs.old, fun e he => ?_, fun e he hw => ?_, List.pairwise_append.2 ⟨?_, p2, fun x hx y hy hw => ?_⟩⟩
 · rcases List.mem_append.1 he with he | he
   · obtain ⟨a, ha, rfl⟩ := List.mem_map.1 he
     have := hs.ents a (List.mem_append_left _ ha)
     obtain ⟨h0, t, ht⟩ := hA a ha
     obtain ⟨b, o, k, cs⟩ := a
     dsimp only at h0 ht
     subst h0 ht
     exact Ent.cel_ro this
   · exact hs.ents e (List.mem_append_right _ he)
 · rcases List.mem_append.1 he with he | he
   · obtain ⟨a, ha, rfl⟩ := List.mem_map.1 he
     exact absurd hw id
   · exact hs.own e (List.mem_append_right _ he) hw
 · refine List.pairwise_iff_forall_sublist.2 fun {a b} hab hw => ?_
   obtain ⟨x, _, rfl⟩ := List.mem_map.1 (hab.subset (by simp : a ∈ [a, b]))
   obtain ⟨y, _, rfl⟩ := List.mem_map.1 (hab.subset (by simp : b ∈ [_, b]))
   rcases hw with hw | hw <;> exact hw.elim
 · obtain ⟨a, ha, rfl⟩ := List.mem_map.1 hx
   obtain ⟨h0, t, ht⟩ := hA a ha
   exact p3 a ha y hy (.inl (by unfold Ent.wr; rw [ht]; trivial))
theorem CallsV.toRo {P : Program} {g : FuncId} {args : List Value} {A H : Hp} {K : Value → Hp → Prop} (hA : ∀ e ∈ A, e.off = 0 ∧ ∃ t, e.kind = .cel t) (hc : CallsV P g args (A.map roE ++ H) K) : CallsV P g args (A ++ H) K :=
 ⟨hc.1, fun w0 mu w hs => by
  have := hc.2 w0 mu w (hs.toRo hA)
  rwa [marks_append, marks_ro2, ← marks_nobj (A := A) (fun e he => (hA e he).2), ← marks_append] at this⟩
theorem IterV.toRo {P : Program} {gf : FuncId} {caps : List Value} {A Hc : Hp} {vs : List (List Value)} (hA : ∀ e ∈ A, e.off = 0 ∧ ∃ t, e.kind = .cel t) (h : IterV P gf caps (A.map roE ++ Hc) vs) : IterV P gf caps (A ++ Hc) vs :=
 ⟨h.1, fun X Ho I St l x0 hro hmk h0 hy => by
  have := h.2 X Ho I St l x0 hro hmk h0 hy
  rw [List.append_assoc] at this ⊢
  exact CallsV.toRo hA this⟩
theorem WpV.dupN {P : Program} {r : Option Nat} {n : Nat} {c : Code} {K : Exit → Tm → Hp → Prop} {T : Tm} {L M : Hp} (hr : ∀ e ∈ M, e.kind = .ro) (h : WpV P r n c K T (M ++ (L ++ M))) : WpV P r n c K T (L ++ M) := by
 have hk : ∀ e ∈ M, ¬ e.wr := fun e he hw => by unfold Ent.wr at hw; rw [hr e he] at hw; exact hw
 have hmM : marksOf M = [] := by
  clear h hk
  induction M with
  | nil => rfl
  | cons x r ih => simp only [marksOf, hr x (by simp)]; exact ih fun e he => hr e (by simp [he])
 intro w0 mu a w hro ht hs hd
 obtain ⟨p1, p2, p3⟩ := List.pairwise_append.1 hs.apart
 refine h w0 mu a w hro ht ⟨hs.os, hs.tape, hs.output, hs.size, hs.old, fun e he => ?_, fun e he hw => ?_, List.pairwise_append.2 ⟨p2, hs.apart, fun x hx y hy hw => ?_⟩⟩ (by rw [hd]; unfold defersOf; rw [marks_append M, hmM]; rfl)
 · rcases List.mem_append.1 he with he | he
   · exact hs.ents e (List.mem_append_right L he)
   · exact hs.ents e he
 · rcases List.mem_append.1 he with he | he
   · exact absurd hw (hk e he)
   · exact hs.own e he hw
 · rcases List.mem_append.1 hy with hy | hy
   · exact (p3 y hy x hx (hw.symm)).symm
   · exact absurd hw (fun hw => hw.elim (hk x hx) (hk y hy))
def mkD (D : Nat) : Ent := ⟨D, 0, .obj (.deferred (some [])), []⟩
theorem mkD_wr (Ds : List Nat) : ∀ e ∈ Ds.map mkD, e.wr := fun e he => by obtain ⟨D, -, rfl⟩ := List.mem_map.1 he; trivial
theorem mkD_marks : ∀ Ds : List Nat, marksOf (Ds.map mkD) = Ds
 | [] => rfl
 | D :: r => by simp only [List.map_cons, mkD, marksOf]; rw [mkD_marks r]
theorem dropM_app : ∀ (A B : Hp), dropM (A ++ B) = dropM A ++ dropM B
 | [], B => rfl
 | e :: r, B => by
   rw [List.cons_append, dropM, dropM, dropM_app r B]
   split <;> rfl
theorem dropM_mkD : ∀ Ds : List Nat, dropM (Ds.map mkD) = []
 | [] => rfl
 | D :: r => by rw [List.map_cons, dropM, dropM_mkD r]; rfl
end Go.Ev
