/- Texts of this claim, merged by program: Oj Ok. -/
import Derived.Test.YtolmipnaheifcaaDoorZaAj
import Derived.Test.YtolmipnaheifcaaDoorZaAh
import Derived.Test.YtolmipnaheifcaaDoorZaAf
set_option linter.unusedSimpArgs false
set_option linter.unusedVariables false
namespace Go.Ev
theorem takeP6 {P : Program} {g : FuncId} {args : List Value} (L : Hp) {M : Hp} {v : Value} {K : Value → Prop} (hc : ∀ M0, roM M0 → cellsAt M0 = cellsAt M → CallsV P g args M0 (Ret0 v)) (hL : freshN L M) (hk : K v) : TakeV P g args (L ++ M) K := TakeV.mk (derE_behind hL) (hc (roAll M) (roAll_ro M) (cellsAt_roAll M)) hk
theorem frombL_num (w : W) : frombW (numL w) = w := by
  refine W.num_inj ?_
  have hl := numL_len w
  rw [frombW_eq, List.take_of_length_le (by rw [List.length_reverse]; omega), W.num_of]
  have h := numL_num w
  unfold numN at h
  rw [h]
  exact Nat.mod_eq_of_lt (W.num_lt w)
theorem noZ_num (w : W) : noZ (numL w) = false := by
  unfold noZ
  exact beq_eq_false_iff_ne.2 (numL_head w)
theorem valP_num (w : W) : valP false (numL w) 0 = (w, true) := by
  unfold valP
  rw [if_neg (by rw [noZ_num]; have := numL_len w; rintro (h | h | h | h) <;> first | omega | cases h), frombL_num]
theorem valP_list (b : List UInt8) (n : Nat) : valP true b n = (W.zero, false) := by unfold valP; rw [if_pos (.inl rfl)]
theorem IvOk.opn {M : Hp} {y : Iv} (h : IvOk M y) : ∃ l b p n c, y.v = .agg #[.bool l, .string b, .slice p n c] := by
  obtain ⟨p, c, hs, -⟩ := h.li
  exact ⟨y.list, bs y.bytes, p, _, c, by rw [← hs]; rfl⟩
def catI : It := .mk true [] [.mk false [99, 97, 116] [], .mk false [100, 111, 103] []]
theorem catI_enc : encL catI = [200, 131, 99, 97, 116, 131, 100, 111, 103] := by
  have h1 : headL 192 8 = [200] := headL_le (by decide)
  have h2 : headL 128 3 = [131] := headL_le (by decide)
  have t1 : textL [99, 97, 116] = [131, 99, 97, 116] := by rw [textL_as (by decide), show ([99, 97, 116] : List UInt8).length = 3 from rfl, h2]; rfl
  have t2 : textL [100, 111, 103] = [131, 100, 111, 103] := by rw [textL_as (by decide), show ([100, 111, 103] : List UInt8).length = 3 from rfl, h2]; rfl
  have e : encLs [.mk false [99, 97, 116] [], .mk false [100, 111, 103] []] = [131, 99, 97, 116, 131, 100, 111, 103] := by rw [encLs, encLs, encLs, encL, encL, t1, t2]; rfl
  unfold catI
  rw [encL, e, show ([131, 99, 97, 116, 131, 100, 111, 103] : List UInt8).length = 8 from rfl, h1]; rfl
theorem catI_right : rightI catI = true := by
  rw [rightI_eq]; rfl
theorem catI_encD : encD catI = ([200, 131, 99, 97, 116, 131, 100, 111, 103], 0) := by
  unfold encD
  rw [if_pos catI_right, catI_enc, if_pos (by decide)]
theorem catI_dec : decD [200, 131, 99, 97, 116, 131, 100, 111, 103] = (catI, 0, 0) := by
  rw [← catI_enc]
  exact decD_back catI_right (by rw [catI_enc]; decide)
theorem dec_form : decD [129, 5] = (noI, 11, 0) := by rfl
theorem dec_short : decD [193] = (noI, 10, 0) := by rfl
theorem dec_more : decD [5, 6] = (noI, 12, 1) := by rfl
theorem num1024 : numL (W.ofInt 1024) = [4, 0] := by
  refine numN_inj (numL_head _) (by decide) ?_
  rw [numL_num, show (1024 : Int) = ((1024 : Nat) : Int) from rfl, W.ofInt_num 1024 (by decide)]
  rfl
theorem oddI_right : rightI (.mk true [97] []) = false := by rw [rightI_eq]; rfl
end Go.Ev
namespace Go.Proofs.YtolmipnaheifcaaDoor
open Go Go.Ev Go.Proofs
set_option maxRecDepth 100000
set_option maxHeartbeats 4000000
theorem refOfNG (args : List Value) (v : Value) (h : ofNG args = some v) : CallsV Tryd.prog 21 args [] (Ret0 v) := by
  unfold ofNG at h
  split at h
  · split at h
    · rename_i n hn; cases h; exact refOf n hn
    · cases h
  · cases h
noncomputable def gO4 : Gam := (addG 21 ofNG (addG 16 rvalG gO3))
attribute [push_cast] gO4
theorem gO4_ok : GamOk Tryd.prog gO4 := (addG_ok refOfNG (addG_ok rvalG_ok gO3_ok))
attribute [push_cast] gO4
def plAW : Plans := fun i => if i = 9 then [] else Tryd.pl8 i
attribute [push_cast] plAW
theorem awk06_ok {M : Hp} (hk : ErrR M) (hm : marksOf M = []) : CallsV Tryd.prog 8 [] M (Ret0 (.bool true)) := by
  refine callsO gO4_ok Tryd.mix plAW Tryd.func8 rfl Tryd.ntmps8 Tryd.results8 rfl (by first | rfl | assumption) (Nat.le_of_ble_eq_true rfl) (by kernel_rfl) ?_
  simp only [push_cast, seval, reduceCtorEq]
  intro b hb b1 hb1
  obtain ⟨M1, hM1⟩ : ∃ M1 : Hp, M1 = ⟨b, 0, .vec 29 3 2, [.bool false, .string { data := #[99, 97, 116] }, .slice none 0 0, .bool false, .string { data := #[100, 111, 103] }, .slice none 0 0]⟩ :: M := ⟨_, rfl⟩
  obtain ⟨X, hX⟩ : ∃ X, X = Iv.mk true [] (.slice (some ⟨b, 0, none⟩) 2 2) [.mk false [99, 97, 116] (.slice none 0 0) [], .mk false [100, 111, 103] (.slice none 0 0) []] := ⟨_, rfl⟩
  have hXi : X.it = catI := by rw [hX]; simp only [Iv.it, Iv.its]; rfl
  have hXv : Value.agg #[.bool true, .string (bs []), .slice (some ⟨b, 0, none⟩) 2 2] = X.v := by rw [hX]; rfl
  have hm1 : marksOf M1 = [] := by rw [hM1]; simp [marksOf, hm]
  have hX1 : IvOk M1 X := by
    rw [hX, hM1]
    refine .mk _ ⟨_, 2, rfl, .inr ⟨b, 0, rfl, ?_⟩⟩ (show 2 ≤ 1099511627776 by decide) fun k hk => ?_
    · unfold cellsAt
      simp only [findE, if_true]
      rfl
    · replace hk : k ∈ [Iv.mk false [99, 97, 116] (.slice none 0 0) [], .mk false [100, 111, 103] (.slice none 0 0) []] := hk
      rcases List.mem_cons.1 hk with rfl | hk
      · exact IvOk.text _ _ _ _
      · rw [List.mem_singleton.1 hk]; exact IvOk.text _ _ _ _
  have hk1 : ErrR M1 := hk.ext (by rw [hM1]; exact Ext.cons hm rfl hb)
  have f1 : fresh b1 M1 := by rw [hM1]; exact hb1
  rw [← hM1, hXv]
  have enc := catI_encD
  refine useP [_] (M := M1) (renc_R hX1 (by rw [hXi, catI_enc]; decide)) ⟨f1, trivial⟩ ?_
  rw [hXi, enc]
  simp only [push_cast, seval, reduceCtorEq]
  refine useL [_] (decode_ok hk1 [200, 131, 99, 97, 116, 131, 100, 111, 103] (by decide)) (DecQ.rd _) hm1 ⟨f1, trivial⟩ fun v M2 hg2 hL2 hq2 => ?_
  obtain ⟨y, e, p, rfl, hd, hy⟩ := hq2
  rw [catI_dec] at hd
  injection hd with hy1 hd
  injection hd with he hp
  subst he hp
  obtain ⟨yl, yb, yp, yn, yc, hyv⟩ := hy.opn
  have hk2 := hk1.ext hg2.ext
  have hX2 := hX1.ext hg2.ext
  have hm2 := hg2.marks
  have f2 := hL2.1
  clear hL2 f1
  simp only [push_cast, seval, reduceCtorEq, hyv]
  intro b4 hb4
  have f4 : fresh b4 M2 := hb4.2.2
  have g4 : ¬ b4 = b1 ∧ ¬ b1 = b4 := ⟨hb4.1, hb4.2.1⟩
  refine useL [_, _] (decode_ok hk2 [129, 5] (by decide)) (DecQ.rd _) hm2 ⟨f4, f2, trivial⟩ fun v M3 hg3 hL3 hq3 => ?_
  obtain ⟨y3, e, p, rfl, hd, hy3⟩ := hq3
  rw [dec_form] at hd
  injection hd with hy31 hd
  injection hd with he hp
  subst he hp
  obtain ⟨yl3, yb3, yp3, yn3, yc3, hyv3⟩ := hy3.opn
  obtain ⟨f4, f1, -⟩ := hL3
  have hk3 := hk2.ext hg3.ext
  have hX3 := hX2.ext hg3.ext
  have hY3 := hy.ext hg3.ext
  have hm3 := hg3.marks
  simp only [push_cast, seval, reduceCtorEq, hyv3, g4]
  intro b7 hb7
  have f7 : fresh b7 M3 := hb7.2.2.2.2
  have g7 : ¬ b7 = b4 ∧ ¬ b4 = b7 ∧ ¬ b7 = b1 ∧ ¬ b1 = b7 := ⟨hb7.1, hb7.2.1, hb7.2.2.1, hb7.2.2.2.1⟩
  refine useL [_, _, _] (decode_ok hk3 [193] (by decide)) (DecQ.rd _) hm3 ⟨f7, f4, f1, trivial⟩ fun v M4 hg4 hL4 hq4 => ?_
  obtain ⟨y4, e, p, rfl, hd, hy4⟩ := hq4
  rw [dec_short] at hd
  injection hd with hy41 hd
  injection hd with he hp
  subst he hp
  obtain ⟨yl4, yb4, yp4, yn4, yc4, hyv4⟩ := hy4.opn
  obtain ⟨f7, f4, f1, -⟩ := hL4
  have hk4 := hk3.ext hg4.ext
  have hX4 := hX3.ext hg4.ext
  have hY4 := hY3.ext hg4.ext
  have hm4 := hg4.marks
  simp only [push_cast, seval, reduceCtorEq, hyv4, g4, g7]
  intro b10 hb10
  have f10 : fresh b10 M4 := hb10.2.2.2.2.2.2
  have g10 : ¬ b10 = b7 ∧ ¬ b7 = b10 ∧ ¬ b10 = b4 ∧ ¬ b4 = b10 ∧ ¬ b10 = b1 ∧ ¬ b1 = b10 := ⟨hb10.1, hb10.2.1, hb10.2.2.1, hb10.2.2.2.1, hb10.2.2.2.2.1, hb10.2.2.2.2.2.1⟩
  refine useL [_, _, _, _] (decode_ok hk4 [5, 6] (by decide)) (DecQ.rd _) hm4 ⟨f10, f7, f4, f1, trivial⟩ fun v M5 hg5 hL5 hq5 => ?_
  obtain ⟨y5, e, p, rfl, hd, hy5⟩ := hq5
  rw [dec_more] at hd
  injection hd with hy51 hd
  injection hd with he hp
  subst he hp
  obtain ⟨yl5, yb5, yp5, yn5, yc5, hyv5⟩ := hy5.opn
  obtain ⟨f10, f7, f4, f1, -⟩ := hL5
  have hX5 := hX4.ext hg5.ext
  have hY5 := hY4.ext hg5.ext
  have hm5 := hg5.marks
  have w0 : (W.zero.v) = .agg W.zero.cells.toArray := rfl
  have bnum : (bs (numL (W.ofInt 1024))).data.toList = numL (W.ofInt 1024) := bs_data _
  have lnum : (numL (W.ofInt 1024)).length ≤ 1099511627776 := by have := numL_len (W.ofInt 1024); omega
  have vnum := valP_num (W.ofInt 1024)
  have vlst := valP_list [] 2
  simp only [push_cast, seval, reduceCtorEq, hyv5, g4, g7, g10, bnum, lnum, vnum]
  intro b13 hb13 b16 hb16
  have f13 : fresh b13 M5 := hb13.2.2.2.2.2.2.2.2
  have g13 : ¬ b13 = b10 ∧ ¬ b10 = b13 ∧ ¬ b13 = b7 ∧ ¬ b7 = b13 ∧ ¬ b13 = b4 ∧ ¬ b4 = b13 ∧ ¬ b13 = b1 ∧ ¬ b1 = b13 := ⟨hb13.1, hb13.2.1, hb13.2.2.1, hb13.2.2.2.1, hb13.2.2.2.2.1, hb13.2.2.2.2.2.1, hb13.2.2.2.2.2.2.1, hb13.2.2.2.2.2.2.2.1⟩
  have f16 : fresh b16 M5 := hb16.2.2.2.2.2.2.2.2.2.2
  have g16 : ¬ b16 = b13 ∧ ¬ b13 = b16 ∧ ¬ b16 = b10 ∧ ¬ b10 = b16 ∧ ¬ b16 = b7 ∧ ¬ b7 = b16 ∧ ¬ b16 = b4 ∧ ¬ b4 = b16 ∧ ¬ b16 = b1 ∧ ¬ b1 = b16 := ⟨hb16.1, hb16.2.1, hb16.2.2.1, hb16.2.2.2.1, hb16.2.2.2.2.1, hb16.2.2.2.2.2.1, hb16.2.2.2.2.2.2.1, hb16.2.2.2.2.2.2.2.1, hb16.2.2.2.2.2.2.2.2.1, hb16.2.2.2.2.2.2.2.2.2.1⟩
  have bnil : (bs ([] : List UInt8)).data.toList = [] := bs_data _
  have l0 : ([] : List UInt8).length ≤ 1099511627776 := by decide
  simp only [push_cast, seval, reduceCtorEq, g4, g7, g10, g13, g16, bnil, l0, vlst]
  intro b18 hb18
  have f18 : fresh b18 M5 := hb18.2.2.2.2.2.2.2.2.2.2.2.2
  have g18 : ¬ b18 = b16 ∧ ¬ b16 = b18 ∧ ¬ b18 = b13 ∧ ¬ b13 = b18 ∧ ¬ b18 = b10 ∧ ¬ b10 = b18 ∧ ¬ b18 = b7 ∧ ¬ b7 = b18 ∧ ¬ b18 = b4 ∧ ¬ b4 = b18 ∧ ¬ b18 = b1 ∧ ¬ b1 = b18 := ⟨hb18.1, hb18.2.1, hb18.2.2.1, hb18.2.2.2.1, hb18.2.2.2.2.1, hb18.2.2.2.2.2.1, hb18.2.2.2.2.2.2.1, hb18.2.2.2.2.2.2.2.1, hb18.2.2.2.2.2.2.2.2.1, hb18.2.2.2.2.2.2.2.2.2.1, hb18.2.2.2.2.2.2.2.2.2.2.1, hb18.2.2.2.2.2.2.2.2.2.2.2.1⟩
  have fL : freshN [⟨b18, 0, .cel 39, W.zero.cells⟩, ⟨b16, 0, .cel 39, (W.ofInt 1024).cells⟩, ⟨b13, 0, .cel 29, [.bool yl5, .string yb5, .slice yp5 yn5 yc5]⟩, ⟨b10, 0, .cel 29, [.bool yl4, .string yb4, .slice yp4 yn4 yc4]⟩, ⟨b7, 0, .cel 29, [.bool yl3, .string yb3, .slice yp3 yn3 yc3]⟩, ⟨b4, 0, .cel 29, [.bool yl, .string yb, .slice yp yn yc]⟩, ⟨b1, 0, .cel 29, [.bool true, .string (bs []), .slice (some ⟨b, 0, none⟩) 2 2]⟩] M5 := ⟨f18, f16, f13, f10, f7, f4, f1, trivial⟩
  refine drawO gO4_ok Tryd.mix (Tryd.pl8 9) (by kernel_rfl) ?_
  have s1 : (bs [200, 131, 99, 97, 116, 131, 100, 111, 103]).toList = [200, 131, 99, 97, 116, 131, 100, 111, 103] := bs_toList _
  have s2 : ByteArray.toList { data := #[200, 131, 99, 97, 116, 131, 100, 111, 103] } = [200, 131, 99, 97, 116, 131, 100, 111, 103] := bs_toList [200, 131, 99, 97, 116, 131, 100, 111, 103]
  simp only [List.append_eq, List.cons_append, List.nil_append]
  simp only [push_cast, seval, reduceCtorEq, g4, g7, g10, g13, g16, g18, s1, s2]
  have hsame : sameI X.it y.it = true := sameI_t (by rw [hXi, hy1])
  refine takeP6 [_, _, _, _, _, _, _] (v := .bool true) (fun MB hr he => by have := rsame_R hX5 hY5 MB hr he; rw [hsame, ← hXv, hyv] at this; exact this) fL ?_
  have weq : binQ Tryd.prog .eql 39 (W.ofInt 1024).v (W.ofInt 1024).v = some (.bool true) := by rw [W.eql _ _ (by kernel_rfl) (by kernel_rfl) (by kernel_rfl), decide_eq_true rfl]
  have wag : Value.agg (W.ofInt 1024).cells.toArray = (W.ofInt 1024).v := rfl
  simp only [push_cast, seval, reduceCtorEq, g4, g7, g10, g13, g16, g18, s1, s2, weq, wag]
  refine takeP6 [_, _, _, _, _, _, _] (v := .bool true) (fun MB hr he => by have := rright_R hX5 MB hr he; rw [hXi, catI_right, ← hXv] at this; exact this) fL ?_
  simp only [push_cast, seval, reduceCtorEq, g4, g7, g10, g13, g16, g18, s1, s2, weq, wag]
  refine takeP6 [_, _, _, _, _, _, _] (v := .bool false) (fun MB hr he => by have := rright_R (IvOk.text MB [97] true 0) MB hr rfl; rw [show (Iv.mk true [97] (.slice none 0 0) []).it = .mk true [97] [] by simp only [Iv.it, Iv.its], oddI_right] at this; exact this) fL ?_
  have n4 : (bs (numL (W.ofInt 1024))).toList = [4, 0] := by rw [bs_toList, num1024]
  have n5 : ByteArray.toList { data := #[4, 0] } = [4, 0] := bs_toList [4, 0]
  simp only [push_cast, seval, reduceCtorEq, g4, g7, g10, g13, g16, g18, s1, s2, weq, wag, n4, n5]
theorem awk06_P {A : Hp} (hk : ErrR A) : ∀ M0, roM M0 → cellsAt M0 = cellsAt A → CallsV Tryd.prog 8 [] M0 (Ret0 (.bool true)) := fun M0 hr he => awk06_ok (hk.congr he.symm) hr.marks
end Go.Proofs.YtolmipnaheifcaaDoor
set_option linter.unusedSimpArgs false
set_option linter.unusedVariables false
namespace Go.Ev
theorem numL_inj {a b : W} (h : numL a = numL b) : a = b := by
  refine W.num_inj ?_
  rw [← numL_num a, ← numL_num b, h]
theorem numL_le {a b : W} (h : a.num < b.num) : (numL a).length ≤ (numL b).length := numN_len (numL_head a) (by rw [numL_num, numL_num]; omega)
theorem numL_nil (a : W) : ((numL a).length = 0) = (a = W.zero) := by
  apply propext
  constructor
  · intro h
    refine numL_inj ?_
    have h1 := numL_num W.zero
    have h2 : W.zero.num = 0 := rfl
    have h3 : (numL a) = [] := List.length_eq_zero_iff.1 h
    rw [h3]
    refine numN_inj (by decide) (numL_head _) ?_
    rw [h1, h2]; rfl
  · rintro rfl
    have h1 := numL_num W.zero
    have h2 : W.zero.num = 0 := rfl
    have h3 : [] = numL W.zero := numN_inj (by decide) (numL_head _) (by rw [h1, h2]; rfl)
    rw [← h3]; rfl
theorem valP_nought (l : List UInt8) : valP false (0 :: l) 0 = (W.zero, false) := by
  unfold valP
  rw [if_pos (.inr (.inr (.inr rfl)))]
theorem sameN (a b : W) : sameI (.mk false (numL a) []) (.mk false (numL b) []) = decide (a = b) := by
  by_cases h : a = b
  · rw [decide_eq_true h, h, sameI_t rfl]
  · rw [decide_eq_false h, sameI_f fun e => h (numL_inj (by injection e))]
end Go.Ev
namespace Go.Proofs.YtolmipnaheifcaaDoor
open Go Go.Ev Go.Proofs
set_option maxRecDepth 100000
set_option maxHeartbeats 4000000
noncomputable def gO5 : Gam := (addG 17 cmpVG gO4)
attribute [push_cast] gO5
theorem gO5_ok : GamOk Tryd.prog gO5 := (addG_ok refCmpG gO4_ok)
attribute [push_cast] gO5
def plNU : Plans := fun i => if i = 7 then [] else Tryd.pl4 i
attribute [push_cast] plNU
theorem rlpNumbers_ok {M : Hp} (hk : ErrR M) (hm : marksOf M = []) (a b : W) : CallsV Tryd.prog 4 [a.v, b.v] M (Ret0 (.bool true)) := by
  have va : ∀ w : W, Value.agg w.cells.toArray = w.v := fun _ => rfl
  refine callsO gO5_ok Tryd.mix plNU Tryd.func4 rfl Tryd.ntmps4 Tryd.results4 rfl (by first | rfl | assumption) (Nat.le_of_ble_eq_true rfl) (by kernel_rfl) ?_
  simp only [push_cast, seval, reduceCtorEq]
  intro b2 hb2 b3 hb3
  refine useP [_, _] (M := M) (awk06_P hk) ⟨hb3.2.2, hb2, trivial⟩ ?_
  have bA : ∀ w : W, (bs (numL w)).data.toList = numL w := fun w => bs_data _
  have lA : ∀ w : W, (numL w).length ≤ 1099511627776 := fun w => by have := numL_len w; omega
  have vA := fun w : W => valP_num w
  simp only [push_cast, seval, reduceCtorEq, hb3, va]
  intro b6 hb6
  simp only [push_cast, seval, reduceCtorEq, hb3, hb6, va]
  intro b7 hb7
  simp only [push_cast, seval, reduceCtorEq, hb3, hb6, hb7, va, bA, lA, vA]
  intro b8 hb8
  have cat : catB { data := #[0] } (bs (numL a)) = some (.string (bs (0 :: numL a))) := ncatB [0] (numL a) (by have := numL_len a; show 1 + _ ≤ _; omega)
  have bZ : (bs (0 :: numL a)).data.toList = 0 :: numL a := bs_data _
  have lZ : (numL a).length ≤ 1099511627775 := by have := numL_len a; omega
  have vZ := valP_nought (numL a)
  simp only [push_cast, seval, reduceCtorEq, hb3, hb6, hb7, hb8, va, bA, lA, vA, cat, bZ, lZ, vZ]
  intro b10 hb10
  simp only [push_cast, seval, reduceCtorEq, hb3, hb6, hb7, hb8, hb10, va]
  refine drawO gO5_ok Tryd.mix (Tryd.pl4 7) (by kernel_rfl) ?_
  have weq : ∀ x y : W, binQ Tryd.prog .eql 39 x.v y.v = some (.bool (decide (x = y))) := fun x y => W.eql _ _ (by kernel_rfl) (by kernel_rfl) (by kernel_rfl)
  have wz : Value.agg #[.int .u64 0, .int .u64 0, .int .u64 0, .int .u64 0] = W.zero.v := rfl
  have da : decide (a = a) = true := decide_eq_true rfl
  simp only [push_cast, seval, reduceCtorEq, hb3, hb6, hb7, hb8, hb10, va, weq, da]
  have hsame := sameN a b
  refine takeP6 [_, _, _, _, _, _] (v := .bool (decide (a = b))) (fun MB hr he => by
    have := rsame_R (IvOk.text MB (numL a) false 0) (IvOk.text MB (numL b) false 0) MB hr rfl
    rw [show (Iv.mk false (numL a) (.slice none 0 0) []).it = .mk false (numL a) [] by simp only [Iv.it, Iv.its], show (Iv.mk false (numL b) (.slice none 0 0) []).it = .mk false (numL b) [] by simp only [Iv.it, Iv.its], hsame] at this
    exact this) ⟨hb10.2.2.2.2.2.2.2.2.2.2, hb8.2.2.2.2.2.2.2.2, hb7.2.2.2.2.2.2, hb6.2.2.2.2, hb3.2.2, hb2, trivial⟩ ?_
  obtain ⟨E, hE⟩ : ∃ E : Bool, E = decide (a = b) := ⟨_, rfl⟩
  have hEE : (E == E) = true := beq_self_eq_true E
  have hzz : (((numL a).length : Int) == 0) = decide (a = W.zero) := by
    by_cases h : a = W.zero
    · have h1 : (numL a).length = 0 := (numL_nil a).mpr h
      rw [decide_eq_true h, h1]; rfl
    · have h1 : ¬ (numL a).length = 0 := fun h1 => h ((numL_nil a).mp h1)
      rw [decide_eq_false h, beq_eq_false_iff_ne]; omega
  obtain ⟨Z, hZ⟩ : ∃ Z : Bool, Z = decide (a = W.zero) := ⟨_, rfl⟩
  rw [← hZ] at hzz
  have hZZ : (Z == Z) = true := beq_self_eq_true Z
  by_cases hc : a.cmp b < 0
  · have hle : ((numL a).length : Int) ≤ ((numL b).length : Int) := by have := numL_le (W.cmp_neg.1 hc); omega
    have hle2 : (numL a).length ≤ (numL b).length := numL_le (W.cmp_neg.1 hc)
    simp only [push_cast, seval, reduceCtorEq, hb3, hb6, hb7, hb8, hb10, va, weq, da, ← hE, hEE, hc, hle, hle2, wz, hzz, ← hZ, hZZ]
  · simp only [push_cast, seval, reduceCtorEq, hb3, hb6, hb7, hb8, hb10, va, weq, da, ← hE, hEE, hc, wz, hzz, ← hZ, hZZ]
end Go.Proofs.YtolmipnaheifcaaDoor
