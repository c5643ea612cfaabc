/- Texts of this claim, merged by program: Oj Ol Om Rj Or. -/
import Derived.Test.YtolmipnaheifcaaGreatDoorZfAk
import Derived.Test.YtolmipnaheifcaaGreatDoorZfAh
import Derived.Test.YtolmipnaheifcaaGreatDoorZfAf
import Derived.Test.YtolmipnaheifcaaGreatDoorZfAg
set_option linter.unusedSimpArgs false
set_option linter.unusedVariables false
namespace Go.Ev
theorem takeP6 {P : Program} {g : FuncId} {args : List Value} (L : Hp) {M : Hp} {v : Value} {K : Value → Prop} (hc : ∀ M0, roM M0 → cellsAt M0 = cellsAt M → CallsV P g args M0 (Ret0 v)) (hL : freshN L M) (hk : K v) : TakeV P g args (L ++ M) K := TakeV.mk (derE_behind hL) (hc (roAll M) (roAll_ro M) (cellsAt_roAll M)) hk
theorem frombL_num (w : W) : frombW (numL w) = w := by
  refine W.num_inj ?_
  have hl := numL_len w
  rw [frombW_eq, List.take_of_length_le (by rw [List.length_reverse]; omega), W.num_of]
  have h := numL_num w
  unfold numN at h
  rw [h]
  exact Nat.mod_eq_of_lt (W.num_lt w)
theorem noZ_num (w : W) : noZ (numL w) = false := by
  unfold noZ
  exact beq_eq_false_iff_ne.2 (numL_head w)
theorem valP_num (w : W) : valP false (numL w) 0 = (w, true) := by
  unfold valP
  rw [if_neg (by rw [noZ_num]; have := numL_len w; rintro (h | h | h | h) <;> first | omega | cases h), frombL_num]
theorem valP_list (b : List UInt8) (n : Nat) : valP true b n = (W.zero, false) := by unfold valP; rw [if_pos (.inl rfl)]
theorem IvOk.opn {M : Hp} {y : Iv} (h : IvOk M y) : ∃ l b p n c, y.v = .agg #[.bool l, .string b, .slice p n c] := by
  obtain ⟨p, c, hs, -⟩ := h.li
  exact ⟨y.list, bs y.bytes, p, _, c, by rw [← hs]; rfl⟩
def catI : It := .mk true [] [.mk false [99, 97, 116] [], .mk false [100, 111, 103] []]
theorem catI_enc : encL catI = [200, 131, 99, 97, 116, 131, 100, 111, 103] := by
  have h1 : headL 192 8 = [200] := headL_le (by decide)
  have h2 : headL 128 3 = [131] := headL_le (by decide)
  have t1 : textL [99, 97, 116] = [131, 99, 97, 116] := by rw [textL_as (by decide), show ([99, 97, 116] : List UInt8).length = 3 from rfl, h2]; rfl
  have t2 : textL [100, 111, 103] = [131, 100, 111, 103] := by rw [textL_as (by decide), show ([100, 111, 103] : List UInt8).length = 3 from rfl, h2]; rfl
  have e : encLs [.mk false [99, 97, 116] [], .mk false [100, 111, 103] []] = [131, 99, 97, 116, 131, 100, 111, 103] := by rw [encLs, encLs, encLs, encL, encL, t1, t2]; rfl
  unfold catI
  rw [encL, e, show ([131, 99, 97, 116, 131, 100, 111, 103] : List UInt8).length = 8 from rfl, h1]; rfl
theorem catI_right : rightI catI = true := by
  rw [rightI_eq]; rfl
theorem catI_encD : encD catI = ([200, 131, 99, 97, 116, 131, 100, 111, 103], 0) := by
  unfold encD
  rw [if_pos catI_right, catI_enc, if_pos (by decide)]
theorem catI_dec : decD [200, 131, 99, 97, 116, 131, 100, 111, 103] = (catI, 0, 0) := by
  rw [← catI_enc]
  exact decD_back catI_right (by rw [catI_enc]; decide)
theorem dec_form : decD [129, 5] = (noI, 11, 0) := by rfl
theorem dec_short : decD [193] = (noI, 10, 0) := by rfl
theorem dec_more : decD [5, 6] = (noI, 12, 1) := by rfl
theorem num1024 : numL (W.ofInt 1024) = [4, 0] := by
  refine numN_inj (numL_head _) (by decide) ?_
  rw [numL_num, show (1024 : Int) = ((1024 : Nat) : Int) from rfl, W.ofInt_num 1024 (by decide)]
  rfl
theorem oddI_right : rightI (.mk true [97] []) = false := by rw [rightI_eq]; rfl
end Go.Ev
namespace Go.Proofs.YtolmipnaheifcaaGreatDoor
open Go Go.Ev Go.Proofs
set_option maxRecDepth 100000
set_option maxHeartbeats 4000000
theorem refOfNG (args : List Value) (v : Value) (h : ofNG args = some v) : CallsV Tryz.prog 23 args [] (Ret0 v) := by
  unfold ofNG at h
  split at h
  · split at h
    · rename_i n hn; cases h; exact refOf n hn
    · cases h
  · cases h
noncomputable def gO4 : Gam := (addG 23 ofNG (addG 12 rvalG gO3))
attribute [push_cast] gO4
theorem gO4_ok : GamOk Tryz.prog gO4 := (addG_ok refOfNG (addG_ok rvalG_ok gO3_ok))
attribute [push_cast] gO4
def plAW : Plans := fun i => if i = 9 then [] else Tryz.pl4 i
attribute [push_cast] plAW
theorem awk06_ok {M : Hp} (hk : ErrR M) (hm : marksOf M = []) : CallsV Tryz.prog 4 [] M (Ret0 (.bool true)) := by
  refine callsO gO4_ok Tryz.mix plAW Tryz.func4 rfl Tryz.ntmps4 Tryz.results4 rfl (by first | rfl | assumption) (Nat.le_of_ble_eq_true rfl) (by kernel_rfl) ?_
  simp only [push_cast, seval, reduceCtorEq]
  intro b hb b1 hb1
  obtain ⟨M1, hM1⟩ : ∃ M1 : Hp, M1 = ⟨b, 0, .vec 29 3 2, [.bool false, .string { data := #[99, 97, 116] }, .slice none 0 0, .bool false, .string { data := #[100, 111, 103] }, .slice none 0 0]⟩ :: M := ⟨_, rfl⟩
  obtain ⟨X, hX⟩ : ∃ X, X = Iv.mk true [] (.slice (some ⟨b, 0, none⟩) 2 2) [.mk false [99, 97, 116] (.slice none 0 0) [], .mk false [100, 111, 103] (.slice none 0 0) []] := ⟨_, rfl⟩
  have hXi : X.it = catI := by rw [hX]; simp only [Iv.it, Iv.its]; rfl
  have hXv : Value.agg #[.bool true, .string (bs []), .slice (some ⟨b, 0, none⟩) 2 2] = X.v := by rw [hX]; rfl
  have hm1 : marksOf M1 = [] := by rw [hM1]; simp [marksOf, hm]
  have hX1 : IvOk M1 X := by
    rw [hX, hM1]
    refine .mk _ ⟨_, 2, rfl, .inr ⟨b, 0, rfl, ?_⟩⟩ (show 2 ≤ 1099511627776 by decide) fun k hk => ?_
    · unfold cellsAt
      simp only [findE, if_true]
      rfl
    · replace hk : k ∈ [Iv.mk false [99, 97, 116] (.slice none 0 0) [], .mk false [100, 111, 103] (.slice none 0 0) []] := hk
      rcases List.mem_cons.1 hk with rfl | hk
      · exact IvOk.text _ _ _ _
      · rw [List.mem_singleton.1 hk]; exact IvOk.text _ _ _ _
  have hk1 : ErrR M1 := hk.ext (by rw [hM1]; exact Ext.cons hm rfl hb)
  have f1 : fresh b1 M1 := by rw [hM1]; exact hb1
  rw [← hM1, hXv]
  have enc := catI_encD
  refine useP [_] (M := M1) (renc_R hX1 (by rw [hXi, catI_enc]; decide)) ⟨f1, trivial⟩ ?_
  rw [hXi, enc]
  simp only [push_cast, seval, reduceCtorEq]
  refine useL [_] (decode_ok hk1 [200, 131, 99, 97, 116, 131, 100, 111, 103] (by decide)) (DecQ.rd _) hm1 ⟨f1, trivial⟩ fun v M2 hg2 hL2 hq2 => ?_
  obtain ⟨y, e, p, rfl, hd, hy⟩ := hq2
  rw [catI_dec] at hd
  injection hd with hy1 hd
  injection hd with he hp
  subst he hp
  obtain ⟨yl, yb, yp, yn, yc, hyv⟩ := hy.opn
  have hk2 := hk1.ext hg2.ext
  have hX2 := hX1.ext hg2.ext
  have hm2 := hg2.marks
  have f2 := hL2.1
  clear hL2 f1
  simp only [push_cast, seval, reduceCtorEq, hyv]
  intro b4 hb4
  have f4 : fresh b4 M2 := hb4.2.2
  have g4 : ¬ b4 = b1 ∧ ¬ b1 = b4 := ⟨hb4.1, hb4.2.1⟩
  refine useL [_, _] (decode_ok hk2 [129, 5] (by decide)) (DecQ.rd _) hm2 ⟨f4, f2, trivial⟩ fun v M3 hg3 hL3 hq3 => ?_
  obtain ⟨y3, e, p, rfl, hd, hy3⟩ := hq3
  rw [dec_form] at hd
  injection hd with hy31 hd
  injection hd with he hp
  subst he hp
  obtain ⟨yl3, yb3, yp3, yn3, yc3, hyv3⟩ := hy3.opn
  obtain ⟨f4, f1, -⟩ := hL3
  have hk3 := hk2.ext hg3.ext
  have hX3 := hX2.ext hg3.ext
  have hY3 := hy.ext hg3.ext
  have hm3 := hg3.marks
  simp only [push_cast, seval, reduceCtorEq, hyv3, g4]
  intro b7 hb7
  have f7 : fresh b7 M3 := hb7.2.2.2.2
  have g7 : ¬ b7 = b4 ∧ ¬ b4 = b7 ∧ ¬ b7 = b1 ∧ ¬ b1 = b7 := ⟨hb7.1, hb7.2.1, hb7.2.2.1, hb7.2.2.2.1⟩
  refine useL [_, _, _] (decode_ok hk3 [193] (by decide)) (DecQ.rd _) hm3 ⟨f7, f4, f1, trivial⟩ fun v M4 hg4 hL4 hq4 => ?_
  obtain ⟨y4, e, p, rfl, hd, hy4⟩ := hq4
  rw [dec_short] at hd
  injection hd with hy41 hd
  injection hd with he hp
  subst he hp
  obtain ⟨yl4, yb4, yp4, yn4, yc4, hyv4⟩ := hy4.opn
  obtain ⟨f7, f4, f1, -⟩ := hL4
  have hk4 := hk3.ext hg4.ext
  have hX4 := hX3.ext hg4.ext
  have hY4 := hY3.ext hg4.ext
  have hm4 := hg4.marks
  simp only [push_cast, seval, reduceCtorEq, hyv4, g4, g7]
  intro b10 hb10
  have f10 : fresh b10 M4 := hb10.2.2.2.2.2.2
  have g10 : ¬ b10 = b7 ∧ ¬ b7 = b10 ∧ ¬ b10 = b4 ∧ ¬ b4 = b10 ∧ ¬ b10 = b1 ∧ ¬ b1 = b10 := ⟨hb10.1, hb10.2.1, hb10.2.2.1, hb10.2.2.2.1, hb10.2.2.2.2.1, hb10.2.2.2.2.2.1⟩
  refine useL [_, _, _, _] (decode_ok hk4 [5, 6] (by decide)) (DecQ.rd _) hm4 ⟨f10, f7, f4, f1, trivial⟩ fun v M5 hg5 hL5 hq5 => ?_
  obtain ⟨y5, e, p, rfl, hd, hy5⟩ := hq5
  rw [dec_more] at hd
  injection hd with hy51 hd
  injection hd with he hp
  subst he hp
  obtain ⟨yl5, yb5, yp5, yn5, yc5, hyv5⟩ := hy5.opn
  obtain ⟨f10, f7, f4, f1, -⟩ := hL5
  have hX5 := hX4.ext hg5.ext
  have hY5 := hY4.ext hg5.ext
  have hm5 := hg5.marks
  have w0 : (W.zero.v) = .agg W.zero.cells.toArray := rfl
  have bnum : (bs (numL (W.ofInt 1024))).data.toList = numL (W.ofInt 1024) := bs_data _
  have lnum : (numL (W.ofInt 1024)).length ≤ 1099511627776 := by have := numL_len (W.ofInt 1024); omega
  have vnum := valP_num (W.ofInt 1024)
  have vlst := valP_list [] 2
  simp only [push_cast, seval, reduceCtorEq, hyv5, g4, g7, g10, bnum, lnum, vnum]
  intro b13 hb13 b16 hb16
  have f13 : fresh b13 M5 := hb13.2.2.2.2.2.2.2.2
  have g13 : ¬ b13 = b10 ∧ ¬ b10 = b13 ∧ ¬ b13 = b7 ∧ ¬ b7 = b13 ∧ ¬ b13 = b4 ∧ ¬ b4 = b13 ∧ ¬ b13 = b1 ∧ ¬ b1 = b13 := ⟨hb13.1, hb13.2.1, hb13.2.2.1, hb13.2.2.2.1, hb13.2.2.2.2.1, hb13.2.2.2.2.2.1, hb13.2.2.2.2.2.2.1, hb13.2.2.2.2.2.2.2.1⟩
  have f16 : fresh b16 M5 := hb16.2.2.2.2.2.2.2.2.2.2
  have g16 : ¬ b16 = b13 ∧ ¬ b13 = b16 ∧ ¬ b16 = b10 ∧ ¬ b10 = b16 ∧ ¬ b16 = b7 ∧ ¬ b7 = b16 ∧ ¬ b16 = b4 ∧ ¬ b4 = b16 ∧ ¬ b16 = b1 ∧ ¬ b1 = b16 := ⟨hb16.1, hb16.2.1, hb16.2.2.1, hb16.2.2.2.1, hb16.2.2.2.2.1, hb16.2.2.2.2.2.1, hb16.2.2.2.2.2.2.1, hb16.2.2.2.2.2.2.2.1, hb16.2.2.2.2.2.2.2.2.1, hb16.2.2.2.2.2.2.2.2.2.1⟩
  have bnil : (bs ([] : List UInt8)).data.toList = [] := bs_data _
  have l0 : ([] : List UInt8).length ≤ 1099511627776 := by decide
  simp only [push_cast, seval, reduceCtorEq, g4, g7, g10, g13, g16, bnil, l0, vlst]
  intro b18 hb18
  have f18 : fresh b18 M5 := hb18.2.2.2.2.2.2.2.2.2.2.2.2
  have g18 : ¬ b18 = b16 ∧ ¬ b16 = b18 ∧ ¬ b18 = b13 ∧ ¬ b13 = b18 ∧ ¬ b18 = b10 ∧ ¬ b10 = b18 ∧ ¬ b18 = b7 ∧ ¬ b7 = b18 ∧ ¬ b18 = b4 ∧ ¬ b4 = b18 ∧ ¬ b18 = b1 ∧ ¬ b1 = b18 := ⟨hb18.1, hb18.2.1, hb18.2.2.1, hb18.2.2.2.1, hb18.2.2.2.2.1, hb18.2.2.2.2.2.1, hb18.2.2.2.2.2.2.1, hb18.2.2.2.2.2.2.2.1, hb18.2.2.2.2.2.2.2.2.1, hb18.2.2.2.2.2.2.2.2.2.1, hb18.2.2.2.2.2.2.2.2.2.2.1, hb18.2.2.2.2.2.2.2.2.2.2.2.1⟩
  have fL : freshN [⟨b18, 0, .cel 25, W.zero.cells⟩, ⟨b16, 0, .cel 25, (W.ofInt 1024).cells⟩, ⟨b13, 0, .cel 29, [.bool yl5, .string yb5, .slice yp5 yn5 yc5]⟩, ⟨b10, 0, .cel 29, [.bool yl4, .string yb4, .slice yp4 yn4 yc4]⟩, ⟨b7, 0, .cel 29, [.bool yl3, .string yb3, .slice yp3 yn3 yc3]⟩, ⟨b4, 0, .cel 29, [.bool yl, .string yb, .slice yp yn yc]⟩, ⟨b1, 0, .cel 29, [.bool true, .string (bs []), .slice (some ⟨b, 0, none⟩) 2 2]⟩] M5 := ⟨f18, f16, f13, f10, f7, f4, f1, trivial⟩
  refine drawO gO4_ok Tryz.mix (Tryz.pl4 9) (by kernel_rfl) ?_
  have s1 : (bs [200, 131, 99, 97, 116, 131, 100, 111, 103]).toList = [200, 131, 99, 97, 116, 131, 100, 111, 103] := bs_toList _
  have s2 : ByteArray.toList { data := #[200, 131, 99, 97, 116, 131, 100, 111, 103] } = [200, 131, 99, 97, 116, 131, 100, 111, 103] := bs_toList [200, 131, 99, 97, 116, 131, 100, 111, 103]
  simp only [List.append_eq, List.cons_append, List.nil_append]
  simp only [push_cast, seval, reduceCtorEq, g4, g7, g10, g13, g16, g18, s1, s2]
  have hsame : sameI X.it y.it = true := sameI_t (by rw [hXi, hy1])
  refine takeP6 [_, _, _, _, _, _, _] (v := .bool true) (fun MB hr he => by have := rsame_R hX5 hY5 MB hr he; rw [hsame, ← hXv, hyv] at this; exact this) fL ?_
  have weq : binQ Tryz.prog .eql 25 (W.ofInt 1024).v (W.ofInt 1024).v = some (.bool true) := by rw [W.eql _ _ (by kernel_rfl) (by kernel_rfl) (by kernel_rfl), decide_eq_true rfl]
  have wag : Value.agg (W.ofInt 1024).cells.toArray = (W.ofInt 1024).v := rfl
  simp only [push_cast, seval, reduceCtorEq, g4, g7, g10, g13, g16, g18, s1, s2, weq, wag]
  refine takeP6 [_, _, _, _, _, _, _] (v := .bool true) (fun MB hr he => by have := rright_R hX5 MB hr he; rw [hXi, catI_right, ← hXv] at this; exact this) fL ?_
  simp only [push_cast, seval, reduceCtorEq, g4, g7, g10, g13, g16, g18, s1, s2, weq, wag]
  refine takeP6 [_, _, _, _, _, _, _] (v := .bool false) (fun MB hr he => by have := rright_R (IvOk.text MB [97] true 0) MB hr rfl; rw [show (Iv.mk true [97] (.slice none 0 0) []).it = .mk true [97] [] by simp only [Iv.it, Iv.its], oddI_right] at this; exact this) fL ?_
  have n4 : (bs (numL (W.ofInt 1024))).toList = [4, 0] := by rw [bs_toList, num1024]
  have n5 : ByteArray.toList { data := #[4, 0] } = [4, 0] := bs_toList [4, 0]
  simp only [push_cast, seval, reduceCtorEq, g4, g7, g10, g13, g16, g18, s1, s2, weq, wag, n4, n5]
theorem awk06_P {A : Hp} (hk : ErrR A) : ∀ M0, roM M0 → cellsAt M0 = cellsAt A → CallsV Tryz.prog 4 [] M0 (Ret0 (.bool true)) := fun M0 hr he => awk06_ok (hk.congr he.symm) hr.marks
end Go.Proofs.YtolmipnaheifcaaGreatDoor
set_option linter.unusedSimpArgs false
set_option linter.unusedVariables false
namespace Go.Ev
theorem numL_step {y : UInt8} {r : List UInt8} : List.dropWhile (fun b : UInt8 => b == 0) (y :: r) = if y = 0 then List.dropWhile (fun b : UInt8 => b == 0) r else y :: r := by
  rw [List.dropWhile_cons]
  by_cases h : y = 0
  · rw [if_pos (by simp [h]), if_pos h]
  · rw [if_neg (by simp [h]), if_neg h]
def byteI (pre : List UInt8) (n : Nat) : It := .mk false (pre ++ [UInt8.ofNat n]) []
noncomputable def goB (sub : List (Int × Int) → Option It) : Nat → List (Int × Int) → List It
  | 0, _ => []
  | _ + 1, [] => []
  | k + 1, x :: r =>
    if pickN x.1 6 = 0 then .mk false (numL (W.ofInt x.2)) [] :: goB sub k r
    else if pickN x.1 6 = 1 then .mk false (List.replicate (pickN x.2 70) 0) [] :: goB sub k r
    else if pickN x.1 6 = 2 then byteI [] (pickN x.2 256) :: goB sub k r
    else if pickN x.1 6 = 3 then (match sub r with
      | some y => y :: goB sub k (r.drop (pickN x.2 4))
      | none => goB sub k r)
    else if pickN x.1 6 = 4 then .mk true [] [] :: goB sub k r
    else byteI [100, 111, 103] (pickN x.2 256) :: goB sub k r
noncomputable def itemB : Nat → List (Int × Int) → It
  | 0, raw => .mk true [] (goB (fun _ => none) 9 (raw.take 9))
  | d + 1, raw => .mk true [] (goB (fun r => some (itemB d r)) 9 (raw.take 9))
noncomputable def rawSub : Nat → List (Int × Int) → Option It
  | 0 => fun _ => none
  | d + 1 => fun r => some (itemB d r)
theorem itemB_eq (d : Nat) (raw : List (Int × Int)) : itemB d raw = .mk true [] (goB (rawSub d) 9 (raw.take 9)) := by cases d <;> rfl
def prI (x : Int × Int) : List Value := [.int .i64 x.1, .int .i64 x.2]
end Go.Ev
namespace Go.Proofs.YtolmipnaheifcaaGreatDoor
open Go Go.Ev Go.Proofs
set_option maxRecDepth 100000
set_option maxHeartbeats 4000000
noncomputable def gO6 : Gam := (addG 35 wbytesG gO4)
attribute [push_cast] gO6
theorem gO6_ok : GamOk Tryz.prog gO6 := (addG_ok refBytesG gO4_ok)
attribute [push_cast] gO6
theorem refNum6_ok (w : W) : CallsV Tryz.prog 18 [w.v] [] (Ret0 (.agg #[.bool false, .string (bs (numL w)), .slice none 0 0])) := by
  obtain ⟨R, hR⟩ : ∃ R, R = numL w := ⟨_, rfl⟩
  rw [← hR]
  unfold numL at hR
  have wl := wbytes_len w
  obtain ⟨l, hl⟩ : ∃ l, l = wbytes w := ⟨_, rfl⟩
  rw [← hl] at hR wl
  refine callsO gO6_ok Tryz.mix Tryz.pl18 Tryz.func18 rfl Tryz.ntmps18 Tryz.results18 rfl (by first | rfl | assumption) (Nat.le_of_ble_eq_true rfl) (by kernel_rfl) ?_
  simp only [push_cast, seval, reduceCtorEq]
  intro b1 b2 hb2
  simp only [push_cast, seval, reduceCtorEq, hb2, ← hl, bs_mk]
  refine loopO gO6_ok (pl := Tryz.pl18) Tryz.mix (X := List UInt8)
    (fun x => ([(1, .pointer (some ⟨b1, 0, none⟩)), (2, .pointer (some ⟨b2, 0, none⟩)), (3, .string (bs x))], [⟨b2, 0, .cel 29, [.bool false, .string ByteArray.empty, .slice none 0 0]⟩]))
    (fun x => x.dropWhile (fun b : UInt8 => b == 0) = R ∧ x.length ≤ 32) (fun x => x.length) l ?_ ?_ (by kernel_rfl) ?_
  · exact ⟨hR.symm, by omega⟩
  · simp only [push_cast, seval, reduceCtorEq, hb2, bs_mk]
  · rintro x ⟨hx, hlen⟩
    dsimp only at hx hlen ⊢
    have e1 : ByteArray.toList { data := #[] } = [] := bs_toList []
    cases x with
    | nil =>
      have e : R = [] := by rw [← hx]; rfl
      simp only [push_cast, seval, reduceCtorEq, e1, e]
    | cons y r =>
      obtain ⟨z, hz⟩ : ∃ z, z = y :: r := ⟨_, rfl⟩
      have zl : z.length = r.length + 1 := by rw [hz]; rfl
      have c2 : 0 < z.length := by omega
      have c1 : (0 : Int) < (z.length : Int) := by omega
      have c3 : 1 ≤ z.length := by omega
      have c4 : (1 : Int) ≤ (z.length : Int) := by omega
      have b0 : (bs z).data[0]? = some y := by rw [nbs_idx c2]; subst hz; rfl
      have dr : List.take (z.length - 1) (List.drop 1 z) = r := by rw [hz]; show List.take (r.length + 1 - 1) r = r; exact List.take_of_length_le (by omega)
      have ne : (z == []) = false := by rw [hz]; rfl
      rw [numL_step] at hx
      rw [← hz] at hx ⊢
      by_cases hy : y = 0
      · have e : ((y.toNat : Int) == 0) = true := by rw [hy]; rfl
        rw [if_pos hy] at hx
        simp only [push_cast, seval, reduceCtorEq, e1, ne, c1, c2, c3, c4, b0, e, dr]
        exact ⟨r, ⟨hx, by rw [List.length_cons] at hlen; omega⟩, by omega, rfl⟩
      · have e : ((y.toNat : Int) == 0) = false := beq_eq_false_iff_ne.2 fun h => hy (UInt8.toNat_inj.1 (show y.toNat = 0 by omega))
        rw [if_neg hy] at hx
        simp only [push_cast, seval, reduceCtorEq, e1, ne, c1, c2, c3, c4, b0, e]
        rw [hx]
theorem refNum6G_ok (args : List Value) (v : Value) (h : rnumG args = some v) : CallsV Tryz.prog 18 args [] (Ret0 v) := by
  unfold rnumG at h
  split at h
  · rename_i x
    cases hx : wOf x with
    | none => simp [hx] at h
    | some a => simp only [hx, Option.bind_some, Option.some.injEq] at h; rw [wOf_some hx, ← h]; exact refNum6_ok a
  · cases h
noncomputable def gO7 : Gam := (addG 6 pickG (addG 18 rnumG gO6))
attribute [push_cast] gO7
theorem gO7_ok : GamOk Tryz.prog gO7 := (addG_ok pickG_ok (addG_ok refNum6G_ok gO6_ok))
attribute [push_cast] gO7
end Go.Proofs.YtolmipnaheifcaaGreatDoor
set_option linter.unusedSimpArgs false
set_option linter.unusedVariables false
namespace Go.Ev
theorem flatMap_cut6 {α : Type} {c : α → List Value} {s : Nat} (hs : ∀ x, (c x).length = s) (l : List α) {lo hi : Nat} (h1 : lo ≤ hi) (h2 : hi ≤ l.length) : ((l.take hi).drop lo).flatMap c = ((l.flatMap c).drop (lo * s)).take ((hi - lo) * s) := by
  have e0 : l = l.take lo ++ ((l.take hi).drop lo ++ l.drop hi) := by
    have e1 : l.take hi = l.take lo ++ (l.take hi).drop lo := by
      have := (List.take_append_drop lo (l.take hi)).symm
      rwa [List.take_take, Nat.min_eq_left h1] at this
    rw [← List.append_assoc, ← e1, List.take_append_drop]
  have l1 : ((l.take lo).flatMap c).length = lo * s := by rw [flatMap_len hs, List.length_take, Nat.min_eq_left (by omega)]
  have l2 : (((l.take hi).drop lo).flatMap c).length = (hi - lo) * s := by rw [flatMap_len hs, List.length_drop, List.length_take, Nat.min_eq_left h2]
  conv => rhs; rw [e0]
  rw [List.flatMap_append, List.flatMap_append, List.drop_append_of_le_length (Nat.le_of_eq l1.symm), List.drop_of_length_le (Nat.le_of_eq l1), List.nil_append, List.take_append_of_le_length (Nat.le_of_eq l2.symm), List.take_of_length_le (Nat.le_of_eq l2)]
theorem LiR.cut6 {α : Type} {c : α → List Value} {s : Nat} {H : Hp} {l : List α} {p : Option Addr} {n k : Nat} (hs : ∀ x, (c x).length = s) (h : LiR c s H l (.slice p n k)) {lo hi : Nat} (h1 : lo ≤ hi) (h2 : hi ≤ n) (h3 : hi ≤ k) :
    LiR c s H ((l.take hi).drop lo) (.slice (slAddr p k lo s) (hi - lo) (k - lo)) := by
  obtain ⟨p', k', hv, h⟩ := h
  cases hv
  have hl : ((l.take hi).drop lo).length = hi - lo := by rw [List.length_drop, List.length_take, Nat.min_eq_left h2]
  refine ⟨_, k - lo, by rw [hl], ?_⟩
  by_cases he : lo = hi
  · exact .inl (List.length_eq_zero_iff.1 (by rw [hl]; omega))
  rcases h with rfl | ⟨b, o, rfl, h⟩
  · simp at h2; omega
  refine .inr ⟨b, o + lo * s, by unfold slAddr; rw [if_neg (by omega)], ?_⟩
  obtain ⟨e, hf⟩ := cellsAt_findS h
  unfold cellsAt at h ⊢
  rw [hf] at h ⊢
  dsimp only at h ⊢
  split at h
  case isFalse => cases h
  rename_i ho
  rw [if_pos (by omega)]
  unfold subL at h ⊢
  split at h
  case isFalse => cases h
  rename_i hle
  have hcs := Option.some.inj h
  have hm : lo * s + (hi - lo) * s ≤ l.length * s := by rw [← Nat.add_mul]; exact Nat.mul_le_mul_right s (by omega)
  rw [hl, if_pos (by omega), flatMap_cut6 hs l h1 h2, ← hcs, List.drop_take, List.take_take, List.drop_drop, show o + lo * s - e.off = o - e.off + lo * s by omega, Nat.min_eq_left (by omega)]
theorem subH_left6 (N : Hp) : ∀ M : Hp, subH (M ++ N) M
  | [] => trivial
  | e :: r => by
    refine ⟨by simp [findE], ?_⟩
    simp only [List.cons_append, remE, if_true]
    exact subH_left6 N r
theorem Gr.subH6 {M M' : Hp} (h : Gr M M') : subH M' M := by
  obtain ⟨_, N, rfl, _, _⟩ := h
  exact subH_left6 N M
theorem rep_bytes6 (z : Nat) : bytesOf (repV z [.int .u8 0]) = some (List.replicate z 0) := by
  have : repV z [.int .u8 0] = byteV (List.replicate z 0) := by
    unfold repV byteV
    rw [List.map_replicate]
    induction z with
    | zero => rfl
    | succ n ih => rw [List.replicate_succ, List.flatten_cons, ih, List.replicate_succ]; rfl
  rw [this]
  exact bytesOf_byteV _
theorem cellsAt_pre6 {A B : Hp} (h : cellsAt A = cellsAt B) (N : Hp) : cellsAt (N ++ A) = cellsAt (N ++ B) := by
  funext b o n
  have h2 := congrFun (congrFun (congrFun h b) o) n
  unfold cellsAt at h2 ⊢
  rw [findE_app, findE_app]
  cases findE N b with
  | some e => rfl
  | none => exact h2
theorem done6 {M M1 N : Hp} (L : Hp) {Q : Value → Hp → Prop} {v : Value} (hg : Gr M M1) (hw : allWr N) (hn : marksOf N = []) (hQ : RdOnly Q) (hq : Q v (N ++ M1)) : ∃ H', H'.Sublist (L ++ dropM (N ++ M1)) ∧ NewK M Q v H' := by
  obtain ⟨h1, N2, rfl, h2, h3⟩ := hg
  refine ⟨N ++ N2, ?_, allWr_app hw h2, by rw [marks_append, hn, h3]; rfl, fun hf => ?_⟩
  · rw [dropM_eq (by rw [marks_append, marks_append, hn, h1, h3]; rfl)]
    exact ((List.Sublist.refl N).append (List.sublist_append_right M N2)).trans (List.sublist_append_right L _)
  · rw [List.append_assoc]
    exact hQ v _ _ (cellsAt_pre6 (cellsAt_swap (freshN_appL.1 hf).2).symm N) hq
def ItemQ (d : Nat) (raw : List (Int × Int)) : Value → Hp → Prop := fun v H => ∃ y, v = Iv.v y ∧ y.it = itemB d raw ∧ IvOk H y
theorem ItemQ.rd (d : Nat) (raw : List (Int × Int)) : RdOnly (ItemQ d raw) := fun v A B h ⟨y, h1, h2, h3⟩ => ⟨y, h1, h2, h3.congr h⟩
end Go.Ev
namespace Go.Proofs.YtolmipnaheifcaaGreatDoor
open Go Go.Ev Go.Proofs
set_option maxRecDepth 100000
set_option maxHeartbeats 20000000
attribute [-push_cast] evAppend_nil evAppend_some slAddr
def CapOk (v : Value) : Prop := ∃ p n k, v = .slice p n k ∧ n ≤ k
def plIT : Plans := fun i => if i = 10 then [] else if i = 12 then [] else if i = 14 then [] else if i = 17 then [] else if i = 8 then [] else Tryz.pl5 i
attribute [push_cast] plIT
theorem item6_step (d : Nat) (hd : d ≤ 10) (hsub : ∀ d', d = d' + 1 → ∀ (raw : List (Int × Int)) (v : Value) (M : Hp), LiR prI 2 M raw v → CapOk v → (∀ x ∈ raw, i64In x.1 ∧ i64In x.2) → raw.length ≤ 9223372036854775807 → CallsR Tryz.prog 5 [v, .int .i64 (d' : Int)] M (ItemQ d' raw))
    (raw : List (Int × Int)) (v : Value) (M : Hp) (hv : LiR prI 2 M raw v) (hcap : CapOk v) (hin : ∀ x ∈ raw, i64In x.1 ∧ i64In x.2) (hlen : raw.length ≤ 9223372036854775807) :
    CallsR Tryz.prog 5 [v, .int .i64 (d : Int)] M (ItemQ d raw) := by
  intro M0 hr he
  have hm := hr.marks
  replace hv := hv.congr he.symm
  obtain ⟨p, k, rfl, -⟩ := id hv
  obtain ⟨p', n', k', hcv, hnk⟩ := hcap
  cases hcv
  obtain ⟨m, hm9⟩ : ∃ m, m = min raw.length 9 := ⟨_, rfl⟩
  have hmI : (if 9 < (raw.length : Int) then 9 else (raw.length : Int)) = (m : Int) := by split <;> omega
  have m1 : m ≤ raw.length := by omega
  have m2 : m ≤ 9 := by omega
  have m3 : m ≤ k := by omega
  have m3' : (m : Int) ≤ (k : Int) := by omega
  have hv9 := LiR.cut6 (c := prI) (s := 2) (fun _ => rfl) hv (lo := 0) (hi := m) (Nat.zero_le _) m1 m3
  rw [List.drop_zero, Nat.sub_zero, Nat.sub_zero] at hv9
  obtain ⟨q, hq⟩ : ∃ q, q = slAddr p k 0 2 := ⟨_, rfl⟩
  rw [← hq] at hv9
  obtain ⟨w, hw⟩ : ∃ w, w = raw.take m := ⟨_, rfl⟩
  rw [← hw] at hv9
  have wl : w.length = m := by rw [hw, List.length_take]; omega
  have hw9 : raw.take 9 = w := by
    rw [hw, hm9]
    rcases Nat.le_total raw.length 9 with h | h
    · rw [Nat.min_eq_left h, List.take_length, List.take_of_length_le h]
    · rw [Nat.min_eq_right h]
  have hinw : ∀ x ∈ w, i64In x.1 ∧ i64In x.2 := fun x hx => hin x (List.mem_of_mem_take (by rw [← hw]; exact hx))
  rw [show (m : Nat) = w.length from wl.symm] at hv9
  obtain ⟨q', k2, hqe, hat⟩ := LiR.openC (c := prI) (s := 2) (fun _ => rfl) (by decide) hv9
  cases hqe
  obtain ⟨R, hR⟩ : ∃ R, R = goB (rawSub d) 9 w := ⟨_, rfl⟩
  have hQ : itemB d raw = .mk true [] R := by rw [itemB_eq, hw9, hR]
  refine callsO gO7_ok Tryz.mix plIT Tryz.func5 rfl Tryz.ntmps5 Tryz.results5 rfl (by first | rfl | assumption) (Nat.le_of_ble_eq_true rfl) (by kernel_rfl) ?_
  simp only [push_cast, seval, reduceCtorEq]
  intro b4 hb4 b5 hb5
  simp only [push_cast, seval, reduceCtorEq, hmI, m3', hq.symm]
  refine loopO gO7_ok (pl := plIT) Tryz.mix (X := {x : ((Nat × Nat) × (List Iv × Value)) × (Hp × Hp) // Gr M0 x.2.2 ∧ freshN x.2.1 x.2.2 ∧ fresh b5 (x.2.1 ++ x.2.2) ∧ fresh b4 (x.2.1 ++ x.2.2)})
    (fun x => ([(0, .slice q m k), (1, .int .i64 (d : Int)), (4, .pointer (some ⟨b4, 0, none⟩)), (5, .pointer (some ⟨b5, 0, none⟩)), (6, .int .i64 (x.1.1.1.1 : Int))],
      ⟨b5, 0, .cel 29, [.bool true, .string ByteArray.empty, x.1.1.2.2]⟩ :: ⟨b4, 0, .cel 29, [.bool false, .string ByteArray.empty, .slice none 0 0]⟩ :: (x.1.2.1 ++ x.1.2.2)))
    (fun x => x.1.1.2.1.map Iv.it ++ goB (rawSub d) x.1.1.1.2 (w.drop x.1.1.1.1) = R ∧ m - x.1.1.1.1 ≤ x.1.1.1.2 ∧ x.1.1.2.1.length + x.1.1.1.2 ≤ 9 ∧ x.1.1.1.1 ≤ 20 ∧ OutG 29 3 (x.1.1.2.1.flatMap Iv.cells) x.1.1.2.1.length x.1.1.2.2 x.1.2.1 ∧ (∀ y ∈ x.1.1.2.1, IvOk x.1.2.2 y))
    (fun x => m - x.1.1.1.1) ⟨(((0, 9), ([], .slice none 0 0)), ([], M0)), ⟨Gr.refl hm, trivial, hb5.2.2, hb4⟩⟩ ?_ ?_ (by kernel_rfl) ?_
  · exact ⟨hR.symm, by dsimp only; omega, Nat.le_refl _, Nat.zero_le _, .inl ⟨rfl, rfl, rfl, rfl⟩, fun y hy => absurd hy (by simp)⟩
  · simp only [push_cast, seval, reduceCtorEq]
    trace_state
  · rintro ⟨⟨⟨⟨i, f⟩, ⟨ks, sv⟩⟩, ⟨N, M1⟩⟩, hg1, hNM, q5, q4⟩ ⟨hgo, hf, hkf, hi20, ho, hok⟩
    dsimp only at hg1 hNM q5 q4 hgo hf hkf hi20 ho hok ⊢
    obtain ⟨pk, ck, rfl⟩ := ho.slice
    rcases Nat.lt_or_ge i m with hlt | hge
    · have i1 : (i : Int) < (m : Int) := by omega
      obtain ⟨x, hx⟩ : ∃ x, w[i]? = some x := ⟨w[i]'(by omega), List.getElem?_eq_getElem (by omega)⟩
      rcases hat with hl0 | ⟨b, fo, dd, kd, cs, rfl, he', hat⟩
      · rw [hl0] at wl; simp at wl; omega
      obtain ⟨x1, x2⟩ := x
      obtain ⟨hx1, hx2⟩ := hinw (x1, x2) (List.mem_of_getElem? hx)
      dsimp only at hx1 hx2
      have hee : findE (N ++ M1) b = some ⟨b, fo, kd, cs⟩ := find_behind hNM _ _ (hg1.find he')
      have nb5 := (fresh_findS q5 hee).2
      have nb4 := (fresh_findS q4 hee).2
      obtain ⟨a1, a2⟩ := hat i (x1, x2) hx
      have k0 : List.take 1 (List.drop (dd + i * 2) cs) = [.int .i64 x1] := by
        have := congrArg (List.take 1) a2
        rw [List.take_take] at this
        exact this
      have k1 : List.take 1 (List.drop (dd + i * 2 + 1) cs) = [.int .i64 x2] := by
        have := congrArg (List.drop 1) a2
        rw [List.drop_take, List.drop_drop] at this
        exact this
      have o1 : fo ≤ fo + dd + i * 2 + 1 := by omega
      have o1' : fo ≤ fo + dd + i * 2 := by omega
      have o2 : fo + dd + i * 2 + 1 - fo = dd + i * 2 + 1 := by omega
      have o2' : fo + dd + i * 2 - fo = dd + i * 2 := by omega
      have o3 : dd + i * 2 + 1 + 1 ≤ cs.length := by omega
      have o3' : dd + i * 2 + 1 ≤ cs.length := by omega
      have b1 := i64B_in hx1
      have b2 := i64B_in hx2
      have b6 : i64B 6 = true := i64B_in (by decide)
      have p6 : posB 6 = true := posB_in (by decide)
      have hpk := pickN_lt x1 (show (0 : Int) < 6 by decide)
      have hd0 : w.drop i = (x1, x2) :: w.drop (i + 1) := by
        obtain ⟨h1, h2⟩ := List.getElem?_eq_some_iff.1 hx
        rw [List.drop_eq_getElem_cons h1, h2]
      obtain ⟨f', rfl⟩ : ∃ f', f = f' + 1 := ⟨f - 1, by omega⟩
      rw [hd0, goB] at hgo
      obtain ⟨pc, hpc⟩ : ∃ pc, pc = pickN x1 6 := ⟨_, rfl⟩
      rw [← hpc] at hpk
      simp only [← hpc] at hgo
      simp only [push_cast, seval, reduceCtorEq, i1, hlt, hb5, hee, nb5, nb4, o1, o1', o2, o2', o3, o3', k0, k1, b1, b2, b6, p6, ← hpc]
      obtain rfl | rfl | rfl | rfl | rfl | rfl : pc = 0 ∨ pc = 1 ∨ pc = 2 ∨ pc = 3 ∨ pc = 4 ∨ pc = 5 := by omega
      · have c0 : (((0 : Nat) : Int) == 0) = true := rfl
        rw [if_pos rfl] at hgo
        simp only [push_cast, seval, reduceCtorEq, c0]
        refine drawO gO7_ok Tryz.mix (Tryz.pl5 10) (by kernel_rfl) ?_
        obtain ⟨hx2a, hx2b⟩ := hx2
        simp only [push_cast, seval, reduceCtorEq, hb5, hx2a, hx2b]
        intro bq hbq
        have nbq : fresh bq (N ++ M1) := hbq.2.2.2.2
        simp only [push_cast, seval, reduceCtorEq, hb5, hbq, hx2a, hx2b]
        refine push_hA (P := Tryz.prog) (c := Iv.cells) (x := Iv.mk false (numL (W.ofInt x2)) (.slice none 0 0) []) [_, _] (by_ := 48) (q := 3) (ag := true) ho ⟨(fresh_app_iff.1 nbq).1, (fresh_app_iff.1 q5).1, (fresh_app_iff.1 q4).1, trivial⟩ (by simp only [push_cast, seval, reduceCtorEq]) (by simp only [push_cast, seval, reduceCtorEq]) rfl rfl (by unfold two47; omega) fun v3 N3 ho4 hf4 => ?_
        obtain ⟨Y, hY⟩ : ∃ Y, Y = Iv.mk false (numL (W.ofInt x2)) (.slice none 0 0) [] := ⟨_, rfl⟩
        have hYi : Y.it = .mk false (numL (W.ofInt x2)) [] := by rw [hY]; simp only [Iv.it, Iv.its]
        rw [← hY] at ho4
        obtain ⟨p3, k3, hv3⟩ := ho4.slice
        subst hv3
        rcases ho4 with ⟨r1, -⟩ | ⟨bu, cu, r3, r4, r5, hN3⟩
        · rw [List.length_append] at r1; simp at r1
        obtain ⟨hq3, -⟩ := (show freshN [⟨bu, 0, .vec 29 3 cu, (ks ++ [Y]).flatMap Iv.cells⟩] _ from hN3 ▸ hf4)
        rw [hN3]
        have hbu := hq3
        simp only [push_cast, seval, reduceCtorEq] at hbu
        obtain ⟨u0, w0, u5, u5', u4, u4', uM⟩ := hbu
        have hbu' : ¬ bu = bq ∧ ¬ bq = bu ∧ ¬ bu = b5 ∧ ¬ b5 = bu ∧ ¬ bu = b4 ∧ ¬ b4 = bu := ⟨u0, w0, u5, u5', u4, u4'⟩
        have hl2 : (ks ++ [Y]).length = ks.length + 1 := by simp
        simp only [push_cast, seval, reduceCtorEq, hb5, hbq, hbu', wrap_i64' (show -9223372036854775808 ≤ (i : Int) + 1 ∧ (i : Int) + 1 ≤ 9223372036854775807 by omega)]
        refine ⟨⟨(((i + 1, f'), (ks ++ [Y], .slice p3 (ks ++ [Y]).length k3)), ([⟨bu, 0, .vec 29 3 cu, (ks ++ [Y]).flatMap Iv.cells⟩], M1)), hg1, ⟨uM, trivial⟩, ⟨u5', u5, (fresh_app_iff.1 q5).2⟩, ⟨u4', u4, (fresh_app_iff.1 q4).2⟩⟩, ⟨?_, by dsimp only; omega, by dsimp only; omega, by dsimp only; omega, .inr ⟨bu, cu, r3, r4, r5, rfl⟩, fun z hz => ?_⟩, by dsimp only; omega, rfl, ⟨by dsimp only; rw [hl2], ?_⟩, rfl⟩
        · dsimp only
          rw [List.map_append, List.map_cons, List.map_nil, List.append_assoc, hYi]
          exact hgo
        · rcases List.mem_append.1 hz with hz | hz
          · exact hok z hz
          · rw [List.mem_singleton.1 hz, hY]; exact IvOk.text _ _ _ _
        · refine ⟨by simp [findE], ?_⟩
          simp only [remE, if_true]
          exact subH_skip6 (fresh_app_iff.1 nbq).2 (subH_self M1)
      · have c0 : (((1 : Nat) : Int) == 0) = false := rfl
        have c1 : (((1 : Nat) : Int) == 1) = true := rfl
        rw [if_neg (by decide), if_pos rfl] at hgo
        simp only [push_cast, seval, reduceCtorEq, c0, c1]
        refine drawO gO7_ok Tryz.mix [(0, 0), (1, 0), (2, 0), (3, 0), (4, 2), (5, 2), (6, 0), (7, 2), (8, 1), (9, 0), (10, 1)] (by kernel_rfl) ?_
        have b70 : i64B 70 = true := i64B_in (by decide)
        have p70 : posB 70 = true := posB_in (by decide)
        have hz := pickN_lt x2 (show (0 : Int) < 70 by decide)
        obtain ⟨z, hz'⟩ : ∃ z, z = pickN x2 70 := ⟨_, rfl⟩
        rw [← hz'] at hz hgo
        have z1 : (0 : Int) ≤ (z : Int) := by omega
        have z2 : (z : Int) ≤ ((two47 : Nat) : Int) := by unfold two47; omega
        have z3 : (z : Int) * 1 ≤ ((two47 : Nat) : Int) := by unfold two47; omega
        have z4 : (z : Int) ≤ (z : Int) := Int.le_refl _
        have hz8 : z ≤ 100 := by omega
        have rz := rep_bytes6 z
        simp only [push_cast, seval, reduceCtorEq, hb5, b2, b70, p70, ← hz', z1, z2, z3, z4]
        intro bz hbz
        have nbz : fresh bz (N ++ M1) := hbz.2.2.2.2
        have rl : (repV z [.int .u8 0]).length = z := by rw [repV_length]; simp
        have rt : List.take z (repV z [.int .u8 0]) = repV z [.int .u8 0] := List.take_of_length_le (Nat.le_of_eq rl)
        have zz : z ≤ z := Nat.le_refl _
        have hif : (if z = 0 then some (Value.string ByteArray.empty) else some (Value.string (bs (List.replicate z 0)))) = some (Value.string (bs (List.replicate z 0))) := by
          by_cases z0 : z = 0
          · rw [if_pos z0, z0]; rfl
          · rw [if_neg z0]
        simp only [push_cast, seval, reduceCtorEq, hb5, hbz, rz, rl, rt, zz, bs_mk, hif]
        intro bq hbq
        have nbq : fresh bq (N ++ M1) := hbq.2.2.2.2.2.2
        simp only [push_cast, seval, reduceCtorEq, hb5, hbz, hbq]
        refine push_hA (P := Tryz.prog) (c := Iv.cells) (x := Iv.mk false (List.replicate z 0) (.slice none 0 0) []) [_, _, _] (by_ := 48) (q := 3) (ag := true) ho ⟨(fresh_app_iff.1 nbq).1, (fresh_app_iff.1 nbz).1, (fresh_app_iff.1 q5).1, (fresh_app_iff.1 q4).1, trivial⟩ (by simp only [push_cast, seval, reduceCtorEq]) (by simp only [push_cast, seval, reduceCtorEq]) rfl rfl (by unfold two47; omega) fun v3 N3 ho4 hf4 => ?_
        obtain ⟨Y, hY⟩ : ∃ Y, Y = Iv.mk false (List.replicate z 0) (.slice none 0 0) [] := ⟨_, rfl⟩
        have hYi : Y.it = .mk false (List.replicate z 0) [] := by rw [hY]; simp only [Iv.it, Iv.its]
        rw [← hY] at ho4
        obtain ⟨p3, k3, hv3⟩ := ho4.slice
        subst hv3
        rcases ho4 with ⟨r1, -⟩ | ⟨bu, cu, r3, r4, r5, hN3⟩
        · rw [List.length_append] at r1; simp at r1
        obtain ⟨hq3, -⟩ := (show freshN [⟨bu, 0, .vec 29 3 cu, (ks ++ [Y]).flatMap Iv.cells⟩] _ from hN3 ▸ hf4)
        rw [hN3]
        have hbu := hq3
        simp only [push_cast, seval, reduceCtorEq] at hbu
        obtain ⟨u0, w0, u1, w1, u5, u5', u4, u4', uM⟩ := hbu
        have hbu' : ¬ bu = bq ∧ ¬ bq = bu ∧ ¬ bu = bz ∧ ¬ bz = bu ∧ ¬ bu = b5 ∧ ¬ b5 = bu ∧ ¬ bu = b4 ∧ ¬ b4 = bu := ⟨u0, w0, u1, w1, u5, u5', u4, u4'⟩
        have hl2 : (ks ++ [Y]).length = ks.length + 1 := by simp
        simp only [push_cast, seval, reduceCtorEq, hb5, hbq, hbz, hbu', wrap_i64' (show -9223372036854775808 ≤ (i : Int) + 1 ∧ (i : Int) + 1 ≤ 9223372036854775807 by omega)]
        refine ⟨⟨(((i + 1, f'), (ks ++ [Y], .slice p3 (ks ++ [Y]).length k3)), ([⟨bu, 0, .vec 29 3 cu, (ks ++ [Y]).flatMap Iv.cells⟩], M1)), hg1, ⟨uM, trivial⟩, ⟨u5', u5, (fresh_app_iff.1 q5).2⟩, ⟨u4', u4, (fresh_app_iff.1 q4).2⟩⟩, ⟨?_, by dsimp only; omega, by dsimp only; omega, by dsimp only; omega, .inr ⟨bu, cu, r3, r4, r5, rfl⟩, fun z hz => ?_⟩, by dsimp only; omega, rfl, ⟨by dsimp only; rw [hl2], ?_⟩, rfl⟩
        · dsimp only
          rw [List.map_append, List.map_cons, List.map_nil, List.append_assoc, hYi]
          exact hgo
        · rcases List.mem_append.1 hz with hz | hz
          · exact hok z hz
          · rw [List.mem_singleton.1 hz, hY]; exact IvOk.text _ _ _ _
        · refine ⟨by simp [findE], ?_⟩
          simp only [remE, if_true]
          exact subH_skip6 (fresh_app_iff.1 nbq).2 (subH_skip6 (fresh_app_iff.1 nbz).2 (subH_self M1))
      · have c0 : (((2 : Nat) : Int) == 0) = false := rfl
        have c1 : (((2 : Nat) : Int) == 1) = false := rfl
        have c2 : (((2 : Nat) : Int) == 2) = true := rfl
        rw [if_neg (by decide), if_neg (by decide), if_pos rfl] at hgo
        simp only [push_cast, seval, reduceCtorEq, c0, c1, c2]
        refine drawO gO7_ok Tryz.mix [(0, 0), (1, 0), (2, 0), (3, 0), (4, 0), (5, 2), (6, 2), (7, 0), (8, 2), (9, 1), (10, 0), (11, 1)] (by kernel_rfl) ?_
        have b256 : i64B 256 = true := i64B_in (by decide)
        have p256 : posB 256 = true := posB_in (by decide)
        have hz := pickN_lt x2 (show (0 : Int) < 256 by decide)
        obtain ⟨z, hz'⟩ : ∃ z, z = pickN x2 256 := ⟨_, rfl⟩
        unfold byteI at hgo
        rw [← hz'] at hz hgo
        have wz := u8_wrapN z
        obtain ⟨c, hc⟩ : ∃ c, c = UInt8.ofNat z := ⟨_, rfl⟩
        rw [← hc] at wz hgo
        have hbc : bytesOf [.int .u8 (c.toNat : Int)] = some [c] := bytesOf_byteV [c]
        have dog : catB { data := #[100, 111, 103] } (bs [c]) = some (.string (bs [100, 111, 103, c])) := ncatB [100, 111, 103] [c] (by show 3 + 1 ≤ _; omega)
        simp only [push_cast, seval, reduceCtorEq, hb5, b2, b256, p256, ← hz', wz]
        intro bz hbz
        have nbz : fresh bz (N ++ M1) := hbz.2.2.2.2
        simp only [push_cast, seval, reduceCtorEq, hb5, hbz, hbc, bs_mk]
        intro bq hbq
        have nbq : fresh bq (N ++ M1) := hbq.2.2.2.2.2.2
        simp only [push_cast, seval, reduceCtorEq, hb5, hbz, hbq]
        refine push_hA (P := Tryz.prog) (c := Iv.cells) (x := Iv.mk false [c] (.slice none 0 0) []) [_, _, _] (by_ := 48) (q := 3) (ag := true) ho ⟨(fresh_app_iff.1 nbq).1, (fresh_app_iff.1 nbz).1, (fresh_app_iff.1 q5).1, (fresh_app_iff.1 q4).1, trivial⟩ (by simp only [push_cast, seval, reduceCtorEq]) (by simp only [push_cast, seval, reduceCtorEq]) rfl rfl (by unfold two47; omega) fun v3 N3 ho4 hf4 => ?_
        obtain ⟨Y, hY⟩ : ∃ Y, Y = Iv.mk false [c] (.slice none 0 0) [] := ⟨_, rfl⟩
        have hYi : Y.it = .mk false [c] [] := by rw [hY]; simp only [Iv.it, Iv.its]
        rw [← hY] at ho4
        obtain ⟨p3, k3, hv3⟩ := ho4.slice
        subst hv3
        rcases ho4 with ⟨r1, -⟩ | ⟨bu, cu, r3, r4, r5, hN3⟩
        · rw [List.length_append] at r1; simp at r1
        obtain ⟨hq3, -⟩ := (show freshN [⟨bu, 0, .vec 29 3 cu, (ks ++ [Y]).flatMap Iv.cells⟩] _ from hN3 ▸ hf4)
        rw [hN3]
        have hbu := hq3
        simp only [push_cast, seval, reduceCtorEq] at hbu
        obtain ⟨u0, w0, u1, w1, u5, u5', u4, u4', uM⟩ := hbu
        have hbu' : ¬ bu = bq ∧ ¬ bq = bu ∧ ¬ bu = bz ∧ ¬ bz = bu ∧ ¬ bu = b5 ∧ ¬ b5 = bu ∧ ¬ bu = b4 ∧ ¬ b4 = bu := ⟨u0, w0, u1, w1, u5, u5', u4, u4'⟩
        have hl2 : (ks ++ [Y]).length = ks.length + 1 := by simp
        simp only [push_cast, seval, reduceCtorEq, hb5, hbq, hbz, hbu', wrap_i64' (show -9223372036854775808 ≤ (i : Int) + 1 ∧ (i : Int) + 1 ≤ 9223372036854775807 by omega)]
        refine ⟨⟨(((i + 1, f'), (ks ++ [Y], .slice p3 (ks ++ [Y]).length k3)), ([⟨bu, 0, .vec 29 3 cu, (ks ++ [Y]).flatMap Iv.cells⟩], M1)), hg1, ⟨uM, trivial⟩, ⟨u5', u5, (fresh_app_iff.1 q5).2⟩, ⟨u4', u4, (fresh_app_iff.1 q4).2⟩⟩, ⟨?_, by dsimp only; omega, by dsimp only; omega, by dsimp only; omega, .inr ⟨bu, cu, r3, r4, r5, rfl⟩, fun z hz => ?_⟩, by dsimp only; omega, rfl, ⟨by dsimp only; rw [hl2], ?_⟩, rfl⟩
        · dsimp only
          rw [List.map_append, List.map_cons, List.map_nil, List.append_assoc, hYi]
          exact hgo
        · rcases List.mem_append.1 hz with hz | hz
          · exact hok z hz
          · rw [List.mem_singleton.1 hz, hY]; exact IvOk.text _ _ _ _
        · refine ⟨by simp [findE], ?_⟩
          simp only [remE, if_true]
          exact subH_skip6 (fresh_app_iff.1 nbq).2 (subH_skip6 (fresh_app_iff.1 nbz).2 (subH_self M1))
      · have c0 : (((3 : Nat) : Int) == 0) = false := rfl
        have c1 : (((3 : Nat) : Int) == 1) = false := rfl
        have c2 : (((3 : Nat) : Int) == 2) = false := rfl
        have c3 : (((3 : Nat) : Int) == 3) = true := rfl
        rw [if_neg (by decide), if_neg (by decide), if_neg (by decide), if_pos rfl] at hgo
        cases d with
        | zero =>
          have e0 : ¬ (0 : Int) < ((0 : Nat) : Int) := by decide
          replace hgo : List.map Iv.it ks ++ goB (rawSub 0) f' (List.drop (i + 1) w) = R := hgo
          simp only [push_cast, seval, reduceCtorEq, c0, c1, c2, c3, e0, wrap_i64' (show -9223372036854775808 ≤ (i : Int) + 1 ∧ (i : Int) + 1 ≤ 9223372036854775807 by omega)]
          exact ⟨⟨(((i + 1, f'), (ks, .slice pk ks.length ck)), (N, M1)), hg1, hNM, q5, q4⟩, ⟨hgo, by dsimp only; omega, by dsimp only; omega, by dsimp only; omega, ho, hok⟩, by dsimp only; omega, rfl, ⟨rfl, subH_self _⟩, rfl⟩
        | succ d' =>
          have e0 : (0 : Int) < ((d' + 1 : Nat) : Int) := by omega
          have e1 : IntKind.i64.wrap (((d' + 1 : Nat) : Int) - 1) = (d' : Int) := by rw [show ((d' + 1 : Nat) : Int) - 1 = (d' : Int) by omega]; exact IntWalk.i64_in _ (by omega)
          replace hgo : List.map Iv.it ks ++ (itemB d' (List.drop (i + 1) w) :: goB (rawSub (d' + 1)) f' (List.drop (pickN x2 4) (List.drop (i + 1) w))) = R := hgo
          have e0n : 0 < d' + 1 := Nat.succ_pos d'
          simp only [push_cast, seval, reduceCtorEq, c0, c1, c2, c3, e0, e0n]
          refine drawO gO7_ok Tryz.mix (Tryz.pl5 17) (by kernel_rfl) ?_
          have j1 : (i : Int) + 1 ≤ (m : Int) := by omega
          have j2 : i + 1 ≤ m := by omega
          have hvw : LiR prI 2 M1 w (.slice (some ⟨b, fo + dd, none⟩) m k) := by rw [← wl]; exact hv9.ext hg1.ext
          have hvs := LiR.cut6 (c := prI) (s := 2) (fun _ => rfl) hvw (lo := i + 1) (hi := m) j2 (Nat.le_refl _) m3
          rw [show w.take m = w from List.take_of_length_le (by omega)] at hvs
          have j0 : (0 : Int) ≤ (i : Int) + 1 := by omega
          have j3 : ((i : Int) + 1).toNat = i + 1 := by omega
          have e1' : IntKind.i64.wrap (d' : Int) = (d' : Int) := IntWalk.i64_in _ (by omega)
          simp only [push_cast, seval, reduceCtorEq, hb5, e1', j0, j1, j2, j3, wrap_i64' (show -9223372036854775808 ≤ (i : Int) + 1 ∧ (i : Int) + 1 ≤ 9223372036854775807 by omega)]
          refine useL (_ :: _ :: N) (hsub d' rfl (w.drop (i + 1)) _ M1 hvs ⟨_, _, _, rfl, by omega⟩ (fun y hy => hinw y (List.mem_of_mem_drop hy)) (by rw [List.length_drop]; omega)) (ItemQ.rd _ _) hg1.marks ⟨(fresh_app_iff.1 q5).2, (fresh_app_iff.1 q4).2, hNM⟩ fun v M2 hg2 hL2 hq2 => ?_
          obtain ⟨y, rfl, hy1, hy2⟩ := hq2
          obtain ⟨yl, yb, yv, yks⟩ := y
          obtain ⟨yp, yc, hsy, -⟩ := id hy2.li
          replace hsy : yv = .slice yp yks.length yc := hsy
          subst hsy
          have hyv : (Iv.mk yl yb (.slice yp yks.length yc) yks).v = .agg #[.bool yl, .string (bs yb), .slice yp yks.length yc] := rfl
          obtain ⟨g5, g4, hNM2⟩ := hL2
          have q5' : fresh b5 (N ++ M2) := fresh_appS (fresh_app_iff.1 q5).1 g5
          have q4' : fresh b4 (N ++ M2) := fresh_appS (fresh_app_iff.1 q4).1 g4
          have hg2' := hg1.trans hg2
          have hok2 : ∀ y ∈ ks, IvOk M2 y := fun y hy => (hok y hy).ext hg2.ext
          refine ⟨subH_pre (A := _ :: _ :: (N ++ M2)) (B := _ :: _ :: (N ++ M1)) (subH_pre (hg2.subH6) (_ :: _ :: N)) [], ?_⟩
          simp only [push_cast, seval, reduceCtorEq, hb5, hyv]
          intro bq hbq
          have nbq : fresh bq (N ++ M2) := hbq.2.2.2.2
          simp only [push_cast, seval, reduceCtorEq, hb5, hbq]
          have b4' : i64B 4 = true := i64B_in (by decide)
          have p4 : posB 4 = true := posB_in (by decide)
          have hz := pickN_lt x2 (show (0 : Int) < 4 by decide)
          obtain ⟨z, hz'⟩ : ∃ z, z = pickN x2 4 := ⟨_, rfl⟩
          rw [← hz', List.drop_drop, show i + 1 + z = i + z + 1 by omega] at hgo
          rw [← hz'] at hz
          refine push_hA (P := Tryz.prog) (c := Iv.cells) (x := Iv.mk yl yb (.slice yp yks.length yc) yks) [_, _] (by_ := 48) (q := 3) (ag := true) ho ⟨(fresh_app_iff.1 nbq).1, (fresh_app_iff.1 q5').1, (fresh_app_iff.1 q4').1, trivial⟩ (by simp only [push_cast, seval, reduceCtorEq]) (by simp only [push_cast, seval, reduceCtorEq]) rfl rfl (by unfold two47; omega) fun v3 N3 ho4 hf4 => ?_
          obtain ⟨Y, hY⟩ : ∃ Y, Y = Iv.mk yl yb (.slice yp yks.length yc) yks := ⟨_, rfl⟩
          have hYi : Y.it = itemB d' (w.drop (i + 1)) := by rw [hY]; exact hy1
          rw [← hY] at ho4
          obtain ⟨p3, k3, hv3⟩ := ho4.slice
          subst hv3
          rcases ho4 with ⟨r1, -⟩ | ⟨bu, cu, r3, r4, r5, hN3⟩
          · rw [List.length_append] at r1; simp at r1
          obtain ⟨hq3, -⟩ := (show freshN [⟨bu, 0, .vec 29 3 cu, (ks ++ [Y]).flatMap Iv.cells⟩] _ from hN3 ▸ hf4)
          rw [hN3]
          have hbu := hq3
          simp only [push_cast, seval, reduceCtorEq] at hbu
          obtain ⟨u0, w0, u5, u5', u4, u4', uM⟩ := hbu
          have hbu' : ¬ bu = bq ∧ ¬ bq = bu ∧ ¬ bu = b5 ∧ ¬ b5 = bu ∧ ¬ bu = b4 ∧ ¬ b4 = bu := ⟨u0, w0, u5, u5', u4, u4'⟩
          have hl2 : (ks ++ [Y]).length = ks.length + 1 := by simp
          simp only [push_cast, seval, reduceCtorEq, hb5, hbq, hbu', wrap_i64' (show -9223372036854775808 ≤ (i : Int) + (z : Int) ∧ (i : Int) + (z : Int) ≤ 9223372036854775807 by omega), wrap_i64' (show -9223372036854775808 ≤ (i : Int) + (z : Int) + 1 ∧ (i : Int) + (z : Int) + 1 ≤ 9223372036854775807 by omega), b2, b4', p4, ← hz']
          refine ⟨⟨(((i + z + 1, f'), (ks ++ [Y], .slice p3 (ks ++ [Y]).length k3)), ([⟨bu, 0, .vec 29 3 cu, (ks ++ [Y]).flatMap Iv.cells⟩], M2)), hg2', ⟨uM, trivial⟩, ⟨u5', u5, (fresh_app_iff.1 q5').2⟩, ⟨u4', u4, (fresh_app_iff.1 q4').2⟩⟩, ⟨?_, by dsimp only; omega, by dsimp only; omega, by dsimp only; omega, .inr ⟨bu, cu, r3, r4, r5, rfl⟩, fun z hz => ?_⟩, by dsimp only; omega, rfl, ⟨by dsimp only; rw [hl2], ?_⟩, rfl⟩
          · dsimp only
            rw [List.map_append, List.map_cons, List.map_nil, List.append_assoc, hYi]
            exact hgo
          · rcases List.mem_append.1 hz with hz | hz
            · exact hok2 z hz
            · rw [List.mem_singleton.1 hz, hY]; exact hy2
          · refine ⟨by simp [findE], ?_⟩
            simp only [remE, if_true]
            exact subH_skip6 (fresh_app_iff.1 nbq).2 (subH_self M2)
      · have c0 : (((4 : Nat) : Int) == 0) = false := rfl
        have c1 : (((4 : Nat) : Int) == 1) = false := rfl
        have c2 : (((4 : Nat) : Int) == 2) = false := rfl
        have c3 : (((4 : Nat) : Int) == 3) = false := rfl
        have c4 : (((4 : Nat) : Int) == 4) = true := rfl
        rw [if_neg (by decide), if_neg (by decide), if_neg (by decide), if_neg (by decide), if_pos rfl] at hgo
        simp only [push_cast, seval, reduceCtorEq, c0, c1, c2, c3, c4, hb5]
        intro bq hbq
        have nbq : fresh bq (N ++ M1) := hbq.2.2.2.2
        try simp only [push_cast, seval, reduceCtorEq, hb5, hbq]
        refine push_hA (P := Tryz.prog) (c := Iv.cells) (x := Iv.mk true [] (.slice none 0 0) []) [_, _] (by_ := 48) (q := 3) (ag := true) ho ⟨(fresh_app_iff.1 nbq).1, (fresh_app_iff.1 q5).1, (fresh_app_iff.1 q4).1, trivial⟩ (by simp only [push_cast, seval, reduceCtorEq]) (by simp only [push_cast, seval, reduceCtorEq]) rfl rfl (by unfold two47; omega) fun v3 N3 ho4 hf4 => ?_
        obtain ⟨Y, hY⟩ : ∃ Y, Y = Iv.mk true [] (.slice none 0 0) [] := ⟨_, rfl⟩
        have hYi : Y.it = .mk true [] [] := by rw [hY]; simp only [Iv.it, Iv.its]
        rw [← hY] at ho4
        obtain ⟨p3, k3, hv3⟩ := ho4.slice
        subst hv3
        rcases ho4 with ⟨r1, -⟩ | ⟨bu, cu, r3, r4, r5, hN3⟩
        · rw [List.length_append] at r1; simp at r1
        obtain ⟨hq3, -⟩ := (show freshN [⟨bu, 0, .vec 29 3 cu, (ks ++ [Y]).flatMap Iv.cells⟩] _ from hN3 ▸ hf4)
        rw [hN3]
        have hbu := hq3
        simp only [push_cast, seval, reduceCtorEq] at hbu
        obtain ⟨u0, w0, u5, u5', u4, u4', uM⟩ := hbu
        have hbu' : ¬ bu = bq ∧ ¬ bq = bu ∧ ¬ bu = b5 ∧ ¬ b5 = bu ∧ ¬ bu = b4 ∧ ¬ b4 = bu := ⟨u0, w0, u5, u5', u4, u4'⟩
        have hl2 : (ks ++ [Y]).length = ks.length + 1 := by simp
        simp only [push_cast, seval, reduceCtorEq, hb5, hbq, hbu', wrap_i64' (show -9223372036854775808 ≤ (i : Int) + 1 ∧ (i : Int) + 1 ≤ 9223372036854775807 by omega)]
        refine ⟨⟨(((i + 1, f'), (ks ++ [Y], .slice p3 (ks ++ [Y]).length k3)), ([⟨bu, 0, .vec 29 3 cu, (ks ++ [Y]).flatMap Iv.cells⟩], M1)), hg1, ⟨uM, trivial⟩, ⟨u5', u5, (fresh_app_iff.1 q5).2⟩, ⟨u4', u4, (fresh_app_iff.1 q4).2⟩⟩, ⟨?_, by dsimp only; omega, by dsimp only; omega, by dsimp only; omega, .inr ⟨bu, cu, r3, r4, r5, rfl⟩, fun z hz => ?_⟩, by dsimp only; omega, rfl, ⟨by dsimp only; rw [hl2], ?_⟩, rfl⟩
        · dsimp only
          rw [List.map_append, List.map_cons, List.map_nil, List.append_assoc, hYi]
          exact hgo
        · rcases List.mem_append.1 hz with hz | hz
          · exact hok z hz
          · rw [List.mem_singleton.1 hz, hY]; exact IvOk.text _ _ _ _
        · refine ⟨by simp [findE], ?_⟩
          simp only [remE, if_true]
          exact subH_skip6 (fresh_app_iff.1 nbq).2 (subH_self M1)
      · have c0 : (((5 : Nat) : Int) == 0) = false := rfl
        have c1 : (((5 : Nat) : Int) == 1) = false := rfl
        have c2 : (((5 : Nat) : Int) == 2) = false := rfl
        have c3 : (((5 : Nat) : Int) == 3) = false := rfl
        have c4 : (((5 : Nat) : Int) == 4) = false := rfl
        rw [if_neg (by decide), if_neg (by decide), if_neg (by decide), if_neg (by decide), if_neg (by decide)] at hgo
        simp only [push_cast, seval, reduceCtorEq, c0, c1, c2, c3, c4]
        refine drawO gO7_ok Tryz.mix [(0, 0), (1, 0), (2, 0), (3, 0), (4, 0), (5, 2), (6, 2), (7, 0), (8, 0), (9, 2), (10, 1), (11, 0), (12, 1)] (by kernel_rfl) ?_
        have b256 : i64B 256 = true := i64B_in (by decide)
        have p256 : posB 256 = true := posB_in (by decide)
        have hz := pickN_lt x2 (show (0 : Int) < 256 by decide)
        obtain ⟨z, hz'⟩ : ∃ z, z = pickN x2 256 := ⟨_, rfl⟩
        unfold byteI at hgo
        rw [← hz'] at hz hgo
        have wz := u8_wrapN z
        obtain ⟨c, hc⟩ : ∃ c, c = UInt8.ofNat z := ⟨_, rfl⟩
        rw [← hc] at wz hgo
        have hbc : bytesOf [.int .u8 (c.toNat : Int)] = some [c] := bytesOf_byteV [c]
        have dog : catB { data := #[100, 111, 103] } (bs [c]) = some (.string (bs [100, 111, 103, c])) := ncatB [100, 111, 103] [c] (by show 3 + 1 ≤ _; omega)
        simp only [push_cast, seval, reduceCtorEq, hb5, b2, b256, p256, ← hz', wz]
        intro bz hbz
        have nbz : fresh bz (N ++ M1) := hbz.2.2.2.2
        simp only [push_cast, seval, reduceCtorEq, hb5, hbz, hbc, bs_mk, dog]
        intro bq hbq
        have nbq : fresh bq (N ++ M1) := hbq.2.2.2.2.2.2
        simp only [push_cast, seval, reduceCtorEq, hb5, hbz, hbq]
        refine push_hA (P := Tryz.prog) (c := Iv.cells) (x := Iv.mk false [100, 111, 103, c] (.slice none 0 0) []) [_, _, _] (by_ := 48) (q := 3) (ag := true) ho ⟨(fresh_app_iff.1 nbq).1, (fresh_app_iff.1 nbz).1, (fresh_app_iff.1 q5).1, (fresh_app_iff.1 q4).1, trivial⟩ (by simp only [push_cast, seval, reduceCtorEq]) (by simp only [push_cast, seval, reduceCtorEq]) rfl rfl (by unfold two47; omega) fun v3 N3 ho4 hf4 => ?_
        obtain ⟨Y, hY⟩ : ∃ Y, Y = Iv.mk false [100, 111, 103, c] (.slice none 0 0) [] := ⟨_, rfl⟩
        have hYi : Y.it = .mk false [100, 111, 103, c] [] := by rw [hY]; simp only [Iv.it, Iv.its]
        rw [← hY] at ho4
        obtain ⟨p3, k3, hv3⟩ := ho4.slice
        subst hv3
        rcases ho4 with ⟨r1, -⟩ | ⟨bu, cu, r3, r4, r5, hN3⟩
        · rw [List.length_append] at r1; simp at r1
        obtain ⟨hq3, -⟩ := (show freshN [⟨bu, 0, .vec 29 3 cu, (ks ++ [Y]).flatMap Iv.cells⟩] _ from hN3 ▸ hf4)
        rw [hN3]
        have hbu := hq3
        simp only [push_cast, seval, reduceCtorEq] at hbu
        obtain ⟨u0, w0, u1, w1, u5, u5', u4, u4', uM⟩ := hbu
        have hbu' : ¬ bu = bq ∧ ¬ bq = bu ∧ ¬ bu = bz ∧ ¬ bz = bu ∧ ¬ bu = b5 ∧ ¬ b5 = bu ∧ ¬ bu = b4 ∧ ¬ b4 = bu := ⟨u0, w0, u1, w1, u5, u5', u4, u4'⟩
        have hl2 : (ks ++ [Y]).length = ks.length + 1 := by simp
        simp only [push_cast, seval, reduceCtorEq, hb5, hbq, hbz, hbu', wrap_i64' (show -9223372036854775808 ≤ (i : Int) + 1 ∧ (i : Int) + 1 ≤ 9223372036854775807 by omega)]
        refine ⟨⟨(((i + 1, f'), (ks ++ [Y], .slice p3 (ks ++ [Y]).length k3)), ([⟨bu, 0, .vec 29 3 cu, (ks ++ [Y]).flatMap Iv.cells⟩], M1)), hg1, ⟨uM, trivial⟩, ⟨u5', u5, (fresh_app_iff.1 q5).2⟩, ⟨u4', u4, (fresh_app_iff.1 q4).2⟩⟩, ⟨?_, by dsimp only; omega, by dsimp only; omega, by dsimp only; omega, .inr ⟨bu, cu, r3, r4, r5, rfl⟩, fun z hz => ?_⟩, by dsimp only; omega, rfl, ⟨by dsimp only; rw [hl2], ?_⟩, rfl⟩
        · dsimp only
          rw [List.map_append, List.map_cons, List.map_nil, List.append_assoc, hYi]
          exact hgo
        · rcases List.mem_append.1 hz with hz | hz
          · exact hok z hz
          · rw [List.mem_singleton.1 hz, hY]; exact IvOk.text _ _ _ _
        · refine ⟨by simp [findE], ?_⟩
          simp only [remE, if_true]
          exact subH_skip6 (fresh_app_iff.1 nbq).2 (subH_skip6 (fresh_app_iff.1 nbz).2 (subH_self M1))
    · have i1 : ¬ (i : Int) < (m : Int) := by omega
      simp only [push_cast, seval, reduceCtorEq, i1, hb5]
      have hRk : R = ks.map Iv.it := by
        rw [← hgo, List.drop_of_length_le (by omega)]
        have : goB (rawSub d) f [] = [] := by cases f <;> rfl
        rw [this, List.append_nil]
      refine done6 [_, _] hg1 ho.wr.1 ho.wr.2 (ItemQ.rd d raw) ⟨.mk true [] (.slice pk ks.length ck) ks, rfl, ?_, .mk _ (ho.liR rfl rfl M1) (by show ks.length ≤ _; omega) fun y hy => (hok y hy).ext (Ext.front hg1.marks ho.wr.2 hNM)⟩
      rw [hQ, hRk]; simp only [Iv.it]; rw [Iv.its_map]
theorem item6_ok (d : Nat) : d ≤ 10 → ∀ (raw : List (Int × Int)) (v : Value) (M : Hp), LiR prI 2 M raw v → CapOk v → (∀ x ∈ raw, i64In x.1 ∧ i64In x.2) → raw.length ≤ 9223372036854775807 → CallsR Tryz.prog 5 [v, .int .i64 (d : Int)] M (ItemQ d raw) := by
  induction d with
  | zero => exact fun hd raw v M h1 h2 h3 h4 => item6_step 0 hd (fun d' h => by omega) raw v M h1 h2 h3 h4
  | succ d ih =>
    intro hd raw v M h1 h2 h3 h4
    refine item6_step (d + 1) hd (fun d' h => ?_) raw v M h1 h2 h3 h4
    have e : d' = d := by omega
    subst e
    exact ih (by omega)
end Go.Proofs.YtolmipnaheifcaaGreatDoor
set_option linter.unusedSimpArgs false
set_option linter.unusedVariables false
namespace Go.Proofs.YtolmipnaheifcaaGreatDoor
open Go Go.Ev Go.Proofs Go.ChangeShapes Go.WideShapes Go.ChangeAt Go.RowKit
set_option maxRecDepth 100000
set_option maxHeartbeats 4000000
structure RawOk6 (H : Hp) (raw : List (Int × Int)) (v : Value) : Prop where
  li : LiR prI 2 H raw v
  cap : CapOk v
  in_ : ∀ x ∈ raw, i64In x.1 ∧ i64In x.2
  len : raw.length ≤ 9223372036854775807
theorem raw6_of {H : Type} {enc : TypeId × Value → H} {W : World} {r : Reach} {b0 base : Nat} {spare : Nat → Bool} {held : Bool} {v : Value} {dd : DataW H} {ps : List MemPlace} (hval : Value.okWide Tryz.prog W r b0 22 v)
    (h : DataW.Trod enc Tryz.prog W base spare held 22 v dd ps) : ∃ raw, RawOk6 (roW W) raw v := by
  obtain ⟨p, len, cap, f, rfl, hl, hm, hf, hc⟩ := slice_of_trod kids (d := 8) (t := 22) (e := 48) (ks := [.int .i64, .int .i64]) (by kernel_rfl) (by show _ < _; decide +kernel) (by kernel_rfl) (by decide +kernel) hval h
  obtain ⟨g, hg⟩ := Deep.choose_lt (α := Int × Int) (n := len) (p := fun i x => f i = [.int .i64 x.1, .int .i64 x.2] ∧ i64In x.1 ∧ i64In x.2) fun i hi => by
    have h2 := hf i hi
    generalize f i = cs at h2 ⊢
    cases h2 with
    | cons a1 h3 =>
      cases h3 with
      | cons a2 h4 =>
        cases h4
        obtain ⟨x, rfl, wx⟩ := a1
        obtain ⟨y, rfl, wy⟩ := a2
        exact ⟨(x, y), rfl, i64_wf wx, i64_wf wy⟩
  refine ⟨(List.range len).map g, ⟨⟨p, cap, by simp, ?_⟩, ⟨p, len, cap, rfl, hl⟩, fun x hx => ?_, ?_⟩⟩
  · rcases hc with rfl | ⟨b, o, rfl, hc⟩
    · exact .inl rfl
    · refine .inr ⟨b, o, rfl, ?_⟩
      rw [show Tryz.prog.cellsOf 48 = 2 by decide +kernel] at hc
      simp only [List.length_map, List.length_range]
      rw [hc, List.flatMap_map, List.flatMap_def, List.flatMap_def]
      congr 2
      exact List.map_congr_left fun i hi => (hg i (List.mem_range.1 hi)).1
  · obtain ⟨i, hi, rfl⟩ := List.mem_map.1 hx
    exact (hg i (List.mem_range.1 hi)).2
  · have : maxLen = 9223372036854775807 := by decide
    simp only [List.length_map, List.length_range]
    omega
end Go.Proofs.YtolmipnaheifcaaGreatDoor
set_option linter.unusedSimpArgs false
set_option linter.unusedVariables false
namespace Go.Ev
mutual
def manyI : It → Nat → Nat
  | .mk _ _ ks, most => manyIs ks most 1
def manyIs : List It → Nat → Nat → Nat
  | [], _, n => n
  | k :: r, most, n => if n < most then manyIs r most (n + manyI k (most - n)) else n
end
theorem cntI_pos8 : ∀ x : It, 0 < cntI x
  | .mk _ _ ks => by rw [cntI]; omega
theorem manyI_eq (x : It) (most : Nat) : manyI x most = manyIs x.kids most 1 := by cases x; rw [manyI]; rfl
mutual
theorem manyI_le : ∀ (x : It) (most : Nat), 1 ≤ most → manyI x most ≤ most
  | .mk _ _ ks, most, h => by rw [manyI]; exact manyIs_le ks most 1 h
theorem manyIs_le : ∀ (ks : List It) (most n : Nat), n ≤ most → manyIs ks most n ≤ most
  | [], most, n, h => by rw [manyIs]; exact h
  | k :: r, most, n, h => by
    rw [manyIs]
    split
    · have := manyI_le k (most - n) (by omega)
      exact manyIs_le r most _ (by omega)
    · exact h
end
mutual
theorem manyI_cnt : ∀ (x : It) (most : Nat), 1 ≤ most → (cntI x ≤ most → manyI x most = cntI x) ∧ (most < cntI x → manyI x most = most)
  | .mk _ _ ks, most, h => by
    obtain ⟨h1, h2⟩ := manyIs_cnt ks most 1 h
    rw [manyI, cntI]
    exact ⟨h1, h2⟩
theorem manyIs_cnt : ∀ (ks : List It) (most n : Nat), n ≤ most → (n + cntIs ks ≤ most → manyIs ks most n = n + cntIs ks) ∧ (most < n + cntIs ks → manyIs ks most n = most)
  | [], most, n, h => by rw [manyIs, cntIs]; exact ⟨fun _ => rfl, fun h2 => by omega⟩
  | k :: r, most, n, h => by
    have hp := cntI_pos8 k
    rw [manyIs, cntIs]
    split
    · rename_i hlt
      obtain ⟨k1, k2⟩ := manyI_cnt k (most - n) (by omega)
      rcases Nat.lt_or_ge (most - n) (cntI k) with hk | hk
      · rw [k2 hk, show n + (most - n) = most by omega]
        obtain ⟨r1, r2⟩ := manyIs_cnt r most most (Nat.le_refl _)
        refine ⟨fun h2 => by omega, fun _ => ?_⟩
        rcases Nat.eq_zero_or_pos (cntIs r) with h0 | h0
        · rw [r1 (by omega), h0]; rfl
        · exact r2 (by omega)
      · rw [k1 hk]
        obtain ⟨r1, r2⟩ := manyIs_cnt r most (n + cntI k) (by omega)
        exact ⟨fun h2 => by rw [r1 (by omega)]; omega, fun h2 => r2 (by omega)⟩
    · exact ⟨fun h2 => by omega, fun h2 => by omega⟩
end
theorem rightI_doc (x : It) : rightI x = (decide (manyI x 5001 ≤ 5000) && okD x 16) := by
  rw [rightI_eq, Bool.and_comm]
  congr 1
  rw [decide_eq_decide]
  obtain ⟨h1, h2⟩ := manyI_cnt x 5001 (by decide)
  constructor
  · intro h; rw [h1 (by omega)]; exact h
  · intro h
    rcases Nat.lt_or_ge 5001 (cntI x) with h3 | h3
    · rw [h2 h3] at h; omega
    · rw [h1 h3] at h; exact h
theorem okD_eq (x : It) (d : Nat) : okD x (d + 1) = ((if x.list then x.bytes.isEmpty else x.kids.isEmpty) && okDs x.kids d) := by cases x; rw [okD]; rfl
theorem okDs_take {ks : List It} {d i : Nat} {k : It} (h : ks[i]? = some k) : okDs (ks.take (i + 1)) d = (okDs (ks.take i) d && okD k d) := by
  induction ks generalizing i with
  | nil => simp at h
  | cons y r ih =>
    cases i with
    | zero => simp only [List.getElem?_cons_zero, Option.some.injEq] at h; subst h; simp [okDs]
    | succ i =>
      rw [List.getElem?_cons_succ] at h
      rw [List.take_succ_cons, okDs, ih h, List.take_succ_cons, okDs, Bool.and_assoc]
theorem okDs_not {ks : List It} {d i : Nat} {k : It} (h : ks[i]? = some k) (hn : okD k d = false) : okDs ks d = false := by
  induction ks generalizing i with
  | nil => simp at h
  | cons y r ih =>
    cases i with
    | zero => simp only [List.getElem?_cons_zero, Option.some.injEq] at h; subst h; rw [okDs, hn, Bool.false_and]
    | succ i =>
      rw [List.getElem?_cons_succ] at h
      rw [okDs, ih h, Bool.and_false]
end Go.Ev
namespace Go.Proofs.YtolmipnaheifcaaGreatDoor
open Go Go.Ev Go.Proofs
set_option maxRecDepth 100000
set_option maxHeartbeats 4000000
theorem refhead_ok (k n : Nat) (hk : k = 128 ∨ k = 192) (hn : n ≤ 1099511627776) : CallsV Tryz.prog 49 [.int .i64 k, .int .i64 n] [] (Ret0 (.string (headK k n))) := by
  rw [headK_eq]
  obtain ⟨R, hR⟩ : ∃ R, R = headL k n := ⟨_, rfl⟩
  rw [← hR]
  unfold headL at hR
  have w0 : IntKind.i64.wrap ((k : Int) + (n : Int)) = ((k + n : Nat) : Int) := by rw [Int.natCast_add]; exact IntWalk.i64_in _ (by omega)
  by_cases hc : n ≤ 55
  · rw [if_pos hc] at hR
    have c1 : (n : Int) ≤ 55 := by omega
    have w1 := u8_wrapN (k + n)
    have hb : bytesOf [.int .u8 ((UInt8.ofNat (k + n)).toNat : Int)] = some [UInt8.ofNat (k + n)] := bytesOf_byteV [UInt8.ofNat (k + n)]
    obtain ⟨c, hc'⟩ : ∃ c, c = UInt8.ofNat (k + n) := ⟨_, rfl⟩
    rw [← hc'] at w1 hb hR
    obtain ⟨m, hm⟩ : ∃ m, m = k + n := ⟨_, rfl⟩
    rw [← hm] at w0 w1
    refine callsO gO7_ok Tryz.mix Tryz.pl49 Tryz.func49 rfl Tryz.ntmps49 Tryz.results49 rfl (by first | rfl | assumption) (Nat.le_of_ble_eq_true rfl) (by kernel_rfl) ?_
    simp only [push_cast, seval, reduceCtorEq, c1, w0, w1, hb]
    rw [hR]; rfl
  · rw [if_neg hc] at hR
    have c1 : ¬ (n : Int) ≤ 55 := by omega
    have nl := numL_len (W.ofInt (n : Int))
    obtain ⟨D, hD⟩ : ∃ D, D = numL (W.ofInt (n : Int)) := ⟨_, rfl⟩
    rw [← hD] at hR nl
    obtain ⟨w, hw⟩ : ∃ w, w = W.ofInt (n : Int) := ⟨_, rfl⟩
    rw [← hw] at hD
    have w1 := u8_wrapN (k + 55 + D.length)
    have hb : bytesOf [.int .u8 ((UInt8.ofNat (k + 55 + D.length)).toNat : Int)] = some [UInt8.ofNat (k + 55 + D.length)] := bytesOf_byteV [UInt8.ofNat (k + 55 + D.length)]
    obtain ⟨c, hc'⟩ : ∃ c, c = UInt8.ofNat (k + 55 + D.length) := ⟨_, rfl⟩
    rw [← hc'] at w1 hb hR
    have w2 : IntKind.i64.wrap ((k : Int) + 55) = (k : Int) + 55 := IntWalk.i64_in _ (by omega)
    have w3 : IntKind.i64.wrap ((k : Int) + 55 + (D.length : Int)) = ((k + 55 + D.length : Nat) : Int) := by
      rw [show (k : Int) + 55 + (D.length : Int) = ((k + 55 + D.length : Nat) : Int) by omega]; exact IntWalk.i64_in _ (by omega)
    obtain ⟨m, hm⟩ : ∃ m, m = k + 55 + D.length := ⟨_, rfl⟩
    rw [← hm] at w1 w3
    have n1 : -9223372036854775808 ≤ (n : Int) := by omega
    have n2 : (n : Int) ≤ 9223372036854775807 := by omega
    have hcat : catB (bs [c]) (bs D) = some (.string (bs R)) := by rw [ncatB [c] D (by show 1 + _ ≤ _; omega), hR]; rfl
    refine callsO gO7_ok Tryz.mix Tryz.pl49 Tryz.func49 rfl Tryz.ntmps49 Tryz.results49 rfl (by first | rfl | assumption) (Nat.le_of_ble_eq_true rfl) (by kernel_rfl) ?_
    simp only [push_cast, seval, reduceCtorEq, c1, n1, n2, ← hw, ← hD, w1, w2, w3, hb, bs_mk, hcat]
theorem refheadG_ok (args : List Value) (v : Value) (h : headG args = some v) : CallsV Tryz.prog 49 args [] (Ret0 v) := by
  unfold headG at h
  split at h
  · rename_i k n
    split at h
    · rename_i hc
      obtain ⟨h1, h2, h3⟩ := hc
      cases h
      obtain ⟨k', rfl⟩ : ∃ k' : Nat, k = (k' : Int) := ⟨k.toNat, by omega⟩
      obtain ⟨n', rfl⟩ : ∃ n' : Nat, n = (n' : Int) := ⟨n.toNat, by omega⟩
      exact refhead_ok k' n' (by omega) (by omega)
    · cases h
  · cases h
noncomputable def gO8 : Gam := (addG 49 headG gO7)
attribute [push_cast] gO8
theorem gO8_ok : GamOk Tryz.prog gO8 := (addG_ok refheadG_ok gO7_ok)
attribute [push_cast] gO8
theorem refmany_ok (x : Iv) : ∀ (most : Nat) (M0 : Hp), 1 ≤ most → most ≤ 1099511627776 → roM M0 → IvOk M0 x → CallsV Tryz.prog 32 [x.v, .int .i64 (most : Int)] M0 (Ret0 (.int .i64 (manyI x.it most : Nat))) := by
  induction x using Iv.ind with
  | h x ih =>
    intro most M0 hm1 hm2 hr hx
    have hm := hr.marks
    have e := manyI_eq x.it most
    rw [Iv.it_kids] at e
    have hli := hx.li
    have hkids := hx.kid
    have hlen := hx.len
    obtain ⟨xl, xb, xs, xk⟩ := x
    replace hli : LiR Iv.cells 3 M0 xk xs := hli
    replace hkids : ∀ k ∈ xk, IvOk M0 k := hkids
    replace hlen : xk.length ≤ 1099511627776 := hlen
    replace ih : ∀ k ∈ xk, ∀ (most : Nat) (M0 : Hp), 1 ≤ most → most ≤ 1099511627776 → roM M0 → IvOk M0 k → CallsV Tryz.prog 32 [k.v, .int .i64 (most : Int)] M0 (Ret0 (.int .i64 (manyI k.it most : Nat))) := ih
    obtain ⟨p, c, rfl, hla⟩ := hli.openC Iv.len (by decide)
    replace e : manyI (Iv.mk xl xb (.slice p xk.length c) xk).it most = manyIs (xk.map Iv.it) most 1 := e
    obtain ⟨R, hR⟩ : ∃ R, R = manyIs (xk.map Iv.it) most 1 := ⟨_, rfl⟩
    rw [e, ← hR]
    show CallsV Tryz.prog _ [.agg #[.bool xl, .string (bs xb), .slice p xk.length c], _] M0 _
    refine callsO gO8_ok Tryz.mix Tryz.pl32 Tryz.func32 rfl Tryz.ntmps32 Tryz.results32 rfl (by first | rfl | assumption) (Nat.le_of_ble_eq_true rfl) (by kernel_rfl) ?_
    simp only [push_cast, seval, reduceCtorEq]
    intro b2 hb2
    refine loopO gO8_ok (pl := Tryz.pl32) Tryz.mix (X := Nat × Nat)
      (fun s => ([(1, .int .i64 (most : Int)), (2, .pointer (some ⟨b2, 0, none⟩)), (5, .int .i64 (s.2 : Int)), (6, .int .i64 (s.1 : Int))], ⟨b2, 0, .cel 29, [.bool xl, .string (bs xb), .slice p xk.length c]⟩ :: M0))
      (fun s => s.1 ≤ xk.length ∧ s.2 ≤ most ∧ manyIs ((xk.drop s.1).map Iv.it) most s.2 = R) (fun s => xk.length - s.1) (0, 1) ?_ ?_ (by kernel_rfl) ?_
    · exact ⟨Nat.zero_le _, hm1, hR.symm⟩
    · simp only [push_cast, seval, reduceCtorEq, subH_self]
    · rintro ⟨i, n⟩ ⟨hi, hn, hRi⟩
      dsimp only at hi hn hRi ⊢
      rcases Nat.lt_or_ge i xk.length with hlt | hge
      · have i1 : (i : Int) < (xk.length : Int) := by omega
        obtain ⟨k, hk⟩ : ∃ k, xk[i]? = some k := ⟨xk[i], List.getElem?_eq_getElem hlt⟩
        have hkm := List.mem_of_getElem? hk
        have hd0 : xk.drop i = k :: xk.drop (i + 1) := by
          obtain ⟨h1, h2⟩ := List.getElem?_eq_some_iff.1 hk
          rw [List.drop_eq_getElem_cons h1, h2]
        rw [hd0, List.map_cons, manyIs] at hRi
        by_cases hnm : n < most
        · have n1 : (n : Int) < (most : Int) := by omega
          rw [if_pos hnm] at hRi
          rcases hla with rfl | ⟨b, f, d, kd, cs, rfl, he, hat⟩
          · simp at hk
          obtain ⟨a1, a2⟩ := hat i k hk
          have nb := (fresh_findS hb2 he).2
          have kc : k.cells.all oneC = true := Iv.all1 (hkids k hkm).one
          have kv : Value.agg k.cells.toArray = k.v := rfl
          have w1 : IntKind.i64.wrap ((most : Int) - (n : Int)) = ((most - n : Nat) : Int) := by rw [show (most : Int) - (n : Int) = ((most - n : Nat) : Int) by omega]; exact IntWalk.i64_in _ (by omega)
          have hle := manyI_le k.it (most - n) (by omega)
          simp only [push_cast, seval, reduceCtorEq, i1, hlt, n1, nb, he, a1, a2, kc, kv, Iv.len, w1]
          refine useP [_] (M := M0) (fun M1 hr1 he1 => ih k hkm (most - n) M1 (by omega) (by omega) hr1 ((hkids k hkm).congr he1.symm)) ⟨hb2, trivial⟩ ?_
          obtain ⟨q, hq⟩ : ∃ q, q = manyI k.it (most - n) := ⟨_, rfl⟩
          rw [← hq] at hle hRi ⊢
          simp only [push_cast, seval, reduceCtorEq, wrap_i64' (show -9223372036854775808 ≤ (n : Int) + (q : Int) ∧ (n : Int) + (q : Int) ≤ 9223372036854775807 by omega), wrap_i64' (show -9223372036854775808 ≤ (i : Int) + 1 ∧ (i : Int) + 1 ≤ 9223372036854775807 by omega)]
          exact ⟨(i + 1, n + q), ⟨hlt, by dsimp only; omega, hRi⟩, by dsimp only; omega, rfl, rfl⟩
        · have n1 : ¬ (n : Int) < (most : Int) := by omega
          rw [if_neg hnm] at hRi
          simp only [push_cast, seval, reduceCtorEq, i1, n1]
          rw [hRi]
      · obtain rfl : i = xk.length := by omega
        rw [List.drop_length, List.map_nil, manyIs] at hRi
        simp only [push_cast, seval, reduceCtorEq, Int.lt_irrefl]
        rw [hRi]
end Go.Proofs.YtolmipnaheifcaaGreatDoor
