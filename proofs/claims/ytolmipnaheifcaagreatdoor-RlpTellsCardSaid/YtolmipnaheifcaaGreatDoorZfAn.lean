/- Texts of this claim, merged by program: Ov Ow Oy On. -/
import Derived.Test.YtolmipnaheifcaaGreatDoorZfAm
import Derived.Test.YtolmipnaheifcaaGreatDoorZfAl
set_option linter.unusedSimpArgs false
set_option linter.unusedVariables false
namespace Go.Proofs.YtolmipnaheifcaaGreatDoor
open Go Go.Ev Go.Proofs
set_option maxRecDepth 100000
set_option maxHeartbeats 4000000
theorem reftext_ok (b : ByteArray) : CallsV Tryz.prog 19 [.string b] [] (Ret0 (.agg #[.bool false, .string b, .slice none 0 0])) := by
  refine callsO gO8_ok Tryz.mix Tryz.pl19 Tryz.func19 rfl Tryz.ntmps19 Tryz.results19 rfl (by first | rfl | assumption) (Nat.le_of_ble_eq_true rfl) (by kernel_rfl) ?_
  simp only [push_cast, seval, reduceCtorEq]
  first | done | rfl
theorem reftextG_ok (args : List Value) (v : Value) (h : rtextG args = some v) : CallsV Tryz.prog 19 args [] (Ret0 v) := by
  unfold rtextG at h
  split at h
  · cases h; exact reftext_ok _
  · cases h
theorem reflist_ok (p : Option Addr) (n c : Nat) : CallsV Tryz.prog 20 [.slice p n c] [] (Ret0 (.agg #[.bool true, .string (bs []), .slice p n c])) := by
  refine callsO gO8_ok Tryz.mix Tryz.pl20 Tryz.func20 rfl Tryz.ntmps20 Tryz.results20 rfl (by first | rfl | assumption) (Nat.le_of_ble_eq_true rfl) (by kernel_rfl) ?_
  simp only [push_cast, seval, reduceCtorEq]
  first | done | rfl
theorem reflistG_ok (args : List Value) (v : Value) (h : rlistPG args = some v) : CallsV Tryz.prog 20 args [] (Ret0 v) := by
  unfold rlistPG at h
  split at h
  · cases h; exact reflist_ok _ _ _
  · cases h
noncomputable def gO9 : Gam := (addG 20 rlistPG (addG 19 rtextG gO8))
attribute [push_cast] gO9
theorem gO9_ok : GamOk Tryz.prog gO9 := (addG_ok reflistG_ok (addG_ok reftextG_ok gO8_ok))
attribute [push_cast] gO9
def ItemK2 (bp : Nat) (s : List UInt8) (r : Rd It) : Value → Hp → Prop := fun v H' => ∃ (y : Iv) (N : Hp) (a' m' e' : Nat), v = y.v ∧ H' = stE bp s a' m' e' :: N ∧ (allWr N ∧ marksOf N = [] ∧ fresh bp N) ∧ IvOk N y ∧ ((r = .bad e' a' ∧ e' ≠ 0) ∨ (r = .ok y.it a' m' ∧ e' = 0))
def plI2 : Plans := fun i => if i = 33 then [] else Tryz.pl38 i
attribute [push_cast] plI2
theorem ItemK2.no {bp : Nat} {s : List UInt8} {r : Rd It} {a m e : Nat} (h : r = .bad e a) (h0 : e ≠ 0) : ItemK2 bp s r (.agg #[.bool false, .string ByteArray.empty, .slice none 0 0]) [stE bp s a m e] :=
  ⟨.mk false [] (.slice none 0 0) [], [], a, m, e, rfl, rfl, ⟨trivial, rfl, trivial⟩, IvOk.text _ _ _ _, .inl ⟨h, h0⟩⟩
theorem ItemK2.text {bp : Nat} {s t : List UInt8} {r : Rd It} {a m e : Nat} (h : (r = .bad e a ∧ e ≠ 0) ∨ (r = .ok (.mk false t []) a m ∧ e = 0)) : ItemK2 bp s r (.agg #[.bool false, .string (bs t), .slice none 0 0]) [stE bp s a m e] :=
  ⟨.mk false t (.slice none 0 0) [], [], a, m, e, rfl, rfl, ⟨trivial, rfl, trivial⟩, IvOk.text _ _ _ _, by simpa only [Iv.it, Iv.its] using h⟩
def xE (b : Nat) (v : Value) : Ent := ⟨b, 0, .cel 29, [.bool true, .string (bs []), v]⟩
def zE (b : Nat) : Ent := ⟨b, 0, .cel 29, [.bool false, .string ByteArray.empty, .slice none 0 0]⟩
def vE (b : Nat) (y : Iv) : Ent := ⟨b, 0, .vec 29 3 1, y.cells⟩
def ItQ (r : Rd It) (y : Iv) (Nk : Hp) (a' m' e' : Nat) : Prop := (allWr Nk ∧ marksOf Nk = []) ∧ IvOk Nk y ∧ ((r = .bad e' a' ∧ e' ≠ 0) ∨ (r = .ok y.it a' m' ∧ e' = 0))
def ItSt (bp b12 b6 : Nat) (s : List UInt8) (r : Rd It) (a m : Nat) (ks : List Iv) (sv : Value) (N M : Hp) : Nat → (Nat → Value) → Hp → Prop
  | 0, _, H => H = xE b12 sv :: stE bp s a m 0 :: zE b6 :: (N ++ M)
  | 1, v, H => ∃ y Nk a' m' e', ItQ r y Nk a' m' e' ∧ v 8 = Iv.v y ∧ H = stE bp s a' m' e' :: xE b12 sv :: zE b6 :: (N ++ (Nk ++ M))
  | 2, v, H => ∃ y Nk a' m' e' b9, ItQ r y Nk a' m' e' ∧ v 9 = .slice (some ⟨b9, 0, none⟩) 1 1 ∧ H = vE b9 y :: stE bp s a' m' e' :: xE b12 sv :: zE b6 :: (N ++ (Nk ++ M))
  | 3, v, H => ∃ y Nk a' m' e' b9 N3, ItQ r y Nk a' m' e' ∧ OutG 29 3 ((ks ++ [y]).flatMap Iv.cells) (ks ++ [y]).length (v 10) N3 ∧ H = xE b12 sv :: stE bp s a' m' e' :: zE b6 :: (N3 ++ (vE b9 y :: (Nk ++ M)))
  | _ + 4, _, H => ∃ y Nk a' m' e' b9 v' N3, ItQ r y Nk a' m' e' ∧ OutG 29 3 ((ks ++ [y]).flatMap Iv.cells) (ks ++ [y]).length v' N3 ∧ H = xE b12 v' :: stE bp s a' m' e' :: zE b6 :: (N3 ++ (vE b9 y :: (Nk ++ M)))
theorem refitem_ok {bp : Nat} {s : List UInt8} (hs : s.length ≤ 1048576) : ∀ (d i : Nat), i + d = 16 → ∀ (e a m : Nat), e ≤ s.length → a ≤ e → m ≤ 5000 →
    CallsV Tryz.prog 38 [.pointer (some ⟨bp, 0, none⟩), .int .i64 (e : Int), .int .i64 (i : Int)] [stE bp s a m 0] (ItemK2 bp s (itemD s d e a m)) := by
  have hSt : ∀ a m e, stE bp s a m e = ⟨bp, 0, .cel 75, [.string (bs s), .int .i64 (a : Int), .int .i64 (m : Int), .int .i64 (e : Int)]⟩ := fun _ _ _ => rfl
  intro d
  induction d with
  | zero =>
    intro i hi e a m he hae hm
    have hR := itemD_zero s e a m
    obtain ⟨R, hR'⟩ : ∃ R, R = itemD s 0 e a m := ⟨_, rfl⟩
    rw [← hR'] at hR ⊢
    have dA : (16 : Int) ≤ (i : Int) := by omega
    rw [hSt]
    refine callsO gO9_ok Tryz.mix plI2 Tryz.func38 rfl Tryz.ntmps38 Tryz.results38 rfl (by first | rfl | assumption) (Nat.le_of_ble_eq_true rfl) (by kernel_rfl) ?_
    simp only [push_cast, seval, reduceCtorEq, dA]
    intro b6 hb6
    by_cases cB : 5000 ≤ m
    · have dB : (5000 : Int) ≤ (m : Int) := by omega
      by_cases cC : e ≤ a
      · have dC : (e : Int) ≤ (a : Int) := by omega
        try simp only [push_cast, seval, reduceCtorEq, hb6, dA, dB, dC, cC]
        refine CallsV.useM (m := stE bp s a m 0) (Hf := []) (reffail_ok 13 a) (by rw [hSt]; simp only [push_cast, seval, reduceCtorEq, hb6]) rfl trivial ?_
        rintro v N ⟨rfl, rfl⟩
        refine ⟨⟨trivial, trivial⟩, rfl, fun hfr => ?_⟩
        clear hfr
        unfold stE
        simp only [push_cast, seval, reduceCtorEq, hb6, dA, dB, dC, cC]
        refine CallsV.useM (m := stE bp s a m 13) (Hf := []) (reffail_no 2 a (by decide)) (by rw [hSt]; simp only [push_cast, seval, reduceCtorEq, hb6]) rfl trivial ?_
        rintro v N ⟨rfl, rfl⟩
        refine ⟨⟨trivial, trivial⟩, rfl, fun hfr => ?_⟩
        clear hfr
        unfold stE
        simp only [push_cast, seval, reduceCtorEq, hb6, dA, dB, dC, cC]
        refine CallsV.useM (m := stE bp s a m 13) (Hf := []) (reffail_no 10 a (by decide)) (by rw [hSt]; simp only [push_cast, seval, reduceCtorEq, hb6]) rfl trivial ?_
        rintro v N ⟨rfl, rfl⟩
        refine ⟨⟨trivial, trivial⟩, rfl, fun hfr => ?_⟩
        clear hfr
        unfold stE
        simp only [push_cast, seval, reduceCtorEq, hb6, dA, dB, dC, cC]
        exact ⟨_, (List.nil_sublist _).cons_cons _, .no hR (by decide)⟩
      · have dC : ¬ (e : Int) ≤ (a : Int) := by omega
        try simp only [push_cast, seval, reduceCtorEq, hb6, dA, dB, dC, cC]
        refine CallsV.useM (m := stE bp s a m 0) (Hf := []) (reffail_ok 13 a) (by rw [hSt]; simp only [push_cast, seval, reduceCtorEq, hb6]) rfl trivial ?_
        rintro v N ⟨rfl, rfl⟩
        refine ⟨⟨trivial, trivial⟩, rfl, fun hfr => ?_⟩
        clear hfr
        unfold stE
        simp only [push_cast, seval, reduceCtorEq, hb6, dA, dB, dC, cC]
        refine CallsV.useM (m := stE bp s a m 13) (Hf := []) (reffail_no 2 a (by decide)) (by rw [hSt]; simp only [push_cast, seval, reduceCtorEq, hb6]) rfl trivial ?_
        rintro v N ⟨rfl, rfl⟩
        refine ⟨⟨trivial, trivial⟩, rfl, fun hfr => ?_⟩
        clear hfr
        unfold stE
        simp only [push_cast, seval, reduceCtorEq, hb6, dA, dB, dC, cC]
        exact ⟨_, (List.nil_sublist _).cons_cons _, .no hR (by decide)⟩
    · have dB : ¬ (5000 : Int) ≤ (m : Int) := by omega
      by_cases cC : e ≤ a
      · have dC : (e : Int) ≤ (a : Int) := by omega
        try simp only [push_cast, seval, reduceCtorEq, hb6, dA, dB, dC, cC]
        refine CallsV.useM (m := stE bp s a m 0) (Hf := []) (reffail_ok 13 a) (by rw [hSt]; simp only [push_cast, seval, reduceCtorEq, hb6]) rfl trivial ?_
        rintro v N ⟨rfl, rfl⟩
        refine ⟨⟨trivial, trivial⟩, rfl, fun hfr => ?_⟩
        clear hfr
        unfold stE
        simp only [push_cast, seval, reduceCtorEq, hb6, dA, dB, dC, cC]
        refine CallsV.useM (m := stE bp s a m 13) (Hf := []) (reffail_no 10 a (by decide)) (by rw [hSt]; simp only [push_cast, seval, reduceCtorEq, hb6]) rfl trivial ?_
        rintro v N ⟨rfl, rfl⟩
        refine ⟨⟨trivial, trivial⟩, rfl, fun hfr => ?_⟩
        clear hfr
        unfold stE
        simp only [push_cast, seval, reduceCtorEq, hb6, dA, dB, dC, cC]
        exact ⟨_, (List.nil_sublist _).cons_cons _, .no hR (by decide)⟩
      · have dC : ¬ (e : Int) ≤ (a : Int) := by omega
        try simp only [push_cast, seval, reduceCtorEq, hb6, dA, dB, dC, cC]
        refine CallsV.useM (m := stE bp s a m 0) (Hf := []) (reffail_ok 13 a) (by rw [hSt]; simp only [push_cast, seval, reduceCtorEq, hb6]) rfl trivial ?_
        rintro v N ⟨rfl, rfl⟩
        refine ⟨⟨trivial, trivial⟩, rfl, fun hfr => ?_⟩
        clear hfr
        unfold stE
        simp only [push_cast, seval, reduceCtorEq, hb6, dA, dB, dC, cC]
        exact ⟨_, (List.nil_sublist _).cons_cons _, .no hR (by decide)⟩
  | succ d ih =>
    intro i hi e a m he hae hm
    have hR := itemD_succ s d e a m
    obtain ⟨R, hR'⟩ : ∃ R, R = itemD s (d + 1) e a m := ⟨_, rfl⟩
    rw [← hR'] at hR ⊢
    unfold stepD at hR
    have dA : ¬ (16 : Int) ≤ (i : Int) := by omega
    rw [hSt]
    refine callsO gO9_ok Tryz.mix plI2 Tryz.func38 rfl Tryz.ntmps38 Tryz.results38 rfl (by first | rfl | assumption) (Nat.le_of_ble_eq_true rfl) (by kernel_rfl) ?_
    simp only [push_cast, seval, reduceCtorEq, dA]
    intro b6 hb6
    by_cases cB : 5000 ≤ m
    · have dB : (5000 : Int) ≤ (m : Int) := by omega
      by_cases cC : e ≤ a
      · have dC : (e : Int) ≤ (a : Int) := by omega
        simp only [push_cast, seval, reduceCtorEq, hb6, dA, dB, dC, cC]
        refine CallsV.useM (m := stE bp s a m 0) (Hf := []) (reffail_ok 2 a) (by rw [hSt]; simp only [push_cast, seval, reduceCtorEq, hb6]) rfl trivial ?_
        rintro v N ⟨rfl, rfl⟩
        refine ⟨⟨trivial, trivial⟩, rfl, fun hfr => ?_⟩
        clear hfr
        unfold stE
        simp only [push_cast, seval, reduceCtorEq, hb6, dA, dB, dC, cC]
        refine CallsV.useM (m := stE bp s a m 2) (Hf := []) (reffail_no 10 a (by decide)) (by rw [hSt]; simp only [push_cast, seval, reduceCtorEq, hb6]) rfl trivial ?_
        rintro v N ⟨rfl, rfl⟩
        refine ⟨⟨trivial, trivial⟩, rfl, fun hfr => ?_⟩
        clear hfr
        unfold stE
        simp only [push_cast, seval, reduceCtorEq, hb6, dA, dB, dC, cC]
        exact ⟨_, (List.nil_sublist _).cons_cons _, .no (by rw [hR, if_pos cB]) (by decide)⟩
      · have dC : ¬ (e : Int) ≤ (a : Int) := by omega
        simp only [push_cast, seval, reduceCtorEq, hb6, dA, dB, dC, cC]
        refine CallsV.useM (m := stE bp s a m 0) (Hf := []) (reffail_ok 2 a) (by rw [hSt]; simp only [push_cast, seval, reduceCtorEq, hb6]) rfl trivial ?_
        rintro v N ⟨rfl, rfl⟩
        refine ⟨⟨trivial, trivial⟩, rfl, fun hfr => ?_⟩
        clear hfr
        unfold stE
        simp only [push_cast, seval, reduceCtorEq, hb6, dA, dB, dC, cC]
        exact ⟨_, (List.nil_sublist _).cons_cons _, .no (by rw [hR, if_pos cB]) (by decide)⟩
    · have dB : ¬ (5000 : Int) ≤ (m : Int) := by omega
      by_cases cC : e ≤ a
      · have dC : (e : Int) ≤ (a : Int) := by omega
        simp only [push_cast, seval, reduceCtorEq, hb6, dA, dB, dC, cC]
        refine CallsV.useM (m := stE bp s a m 0) (Hf := []) (reffail_ok 10 a) (by rw [hSt]; simp only [push_cast, seval, reduceCtorEq, hb6]) rfl trivial ?_
        rintro v N ⟨rfl, rfl⟩
        refine ⟨⟨trivial, trivial⟩, rfl, fun hfr => ?_⟩
        clear hfr
        unfold stE
        simp only [push_cast, seval, reduceCtorEq, hb6, dA, dB, dC, cC]
        exact ⟨_, (List.nil_sublist _).cons_cons _, .no (by rw [hR, if_neg cB, if_pos cC]) (by decide)⟩
      · have dC : ¬ (e : Int) ≤ (a : Int) := by omega
        rw [if_neg cB, if_neg cC] at hR
        have hal : a < s.length := by omega
        have hal' : (a : Int) < (s.length : Int) := by omega
        have b0 := nb_at hal
        obtain ⟨c, hc⟩ : ∃ c, c = s.getD a 0 := ⟨_, rfl⟩
        rw [← hc] at b0 hR
        have hu := c.toNat_lt
        have wc : IntKind.i64.wrap (c.toNat : Int) = (c.toNat : Int) := IntWalk.i64_in _ (by omega)
        obtain ⟨m1, hm1⟩ : ∃ m1, m1 = m + 1 := ⟨_, rfl⟩
        have wm : IntKind.i64.wrap ((m : Int) + 1) = (m1 : Int) := by rw [show (m : Int) + 1 = (m1 : Int) by omega]; exact IntWalk.i64_in _ (by omega)
        obtain ⟨p, hp⟩ : ∃ p, p = a + 1 := ⟨_, rfl⟩
        have wp : IntKind.i64.wrap ((a : Int) + 1) = (p : Int) := by rw [show (a : Int) + 1 = (p : Int) by omega]; exact IntWalk.i64_in _ (by omega)
        rw [← hm1] at hR
        by_cases c1 : c.toNat < 128
        · have d1 : (c.toNat : Int) < 128 := by omega
          rw [if_pos c1] at hR
          have p1 : a ≤ p := by omega
          have p1' : (a : Int) ≤ (p : Int) := by omega
          have p2 : p ≤ s.length := by omega
          have p2' : (p : Int) ≤ (s.length : Int) := by omega
          have p3 : p - a = 1 := by omega
          have ht : List.take 1 (List.drop a s) = [c] := by
            have := subS_succ (s := s) (a := a) 0 hal
            unfold subS at this
            rw [this, hc]; rfl
          simp only [push_cast, seval, reduceCtorEq, hb6, dB, dC, cC, hal, hal', b0, wc, d1, c1, wm, wp, p1, p1', p2, p2', p3, ht]
          exact ⟨[stE bp s p m1 0], (List.Sublist.refl _).cons _, .text (r := R) (t := [c]) (a := p) (m := m1) (.inr ⟨by rw [hR, hp], rfl⟩)⟩
        have d1 : ¬ (c.toNat : Int) < 128 := by omega
        rw [if_neg c1] at hR
        by_cases c2 : c.toNat < 192
        · have d2 : ¬ (192 : Int) ≤ (c.toNat : Int) := by omega
          rw [if_pos c2] at hR
          simp only [push_cast, seval, reduceCtorEq, hb6, dB, dC, cC, hal, hal', b0, wc, d1, c1, wm, d2, c2]
          refine CallsV.useM (m := stE bp s a m1 0) (Hf := []) (refsize_ok (k := 128) (by decide) hs he (by omega) (by rw [← hc]; omega) (by rw [← hc]; omega)) (by rw [hSt]; simp only [push_cast, seval, reduceCtorEq, hb6]) rfl trivial ?_
          rintro v N (⟨x, q, h2, hx, rfl, rfl⟩ | ⟨n, q, h2, hnq, hqe, hnl, rfl, rfl⟩ | ⟨n, b, z, h2, rfl, rfl⟩)
          · rw [h2] at hR
            refine ⟨⟨trivial, trivial⟩, rfl, fun hfr => ?_⟩
            clear hfr
            have x1 : ((x : Int) == 0) = false := by rw [beq_eq_false_iff_ne]; omega
            have x2 : ((x : Int) != 0) = true := by rw [bne_iff_ne]; omega
            unfold stE
            simp only [push_cast, seval, reduceCtorEq, hb6, x1, x2]
            exact ⟨_, (List.nil_sublist _).cons_cons _, .no hR hx⟩
          · rw [h2] at hR
            refine ⟨⟨trivial, trivial⟩, rfl, fun hfr => ?_⟩
            clear hfr
            have n1 : (e : Int) - (q : Int) < (n : Int) := by omega
            unfold stE
            simp only [push_cast, seval, reduceCtorEq, hb6, wrap_i64' (show -9223372036854775808 ≤ (e : Int) - (q : Int) ∧ (e : Int) - (q : Int) ≤ 9223372036854775807 by omega), n1]
            refine CallsV.useM (m := stE bp s q m1 0) (Hf := []) (reffail_ok 10 a) (by rw [hSt]; simp only [push_cast, seval, reduceCtorEq, hb6]) rfl trivial ?_
            rintro v N ⟨rfl, rfl⟩
            refine ⟨⟨trivial, trivial⟩, rfl, fun hfr => ?_⟩
            clear hfr
            unfold stE
            simp only [push_cast, seval, reduceCtorEq, hb6]
            exact ⟨_, (List.nil_sublist _).cons_cons _, .no hR (by decide)⟩
          obtain ⟨z1, z2, z3⟩ := sizeD_ok (by omega) he (by rw [← hc]; omega) (by rw [← hc]; omega) h2
          rw [h2] at hR
          dsimp only at hR
          refine ⟨⟨trivial, trivial⟩, rfl, fun hfr => ?_⟩
          clear hfr
          have n1 : ¬ (e : Int) - (b : Int) < (n : Int) := by omega
          obtain ⟨q, hq⟩ : ∃ q, q = b + n := ⟨_, rfl⟩
          have wq : IntKind.i64.wrap ((b : Int) + (n : Int)) = (q : Int) := by rw [show (b : Int) + (n : Int) = (q : Int) by omega]; exact IntWalk.i64_in _ (by omega)
          unfold stE

          unfold textD at hR
          have q1 : b ≤ q := by omega
          have q1' : (b : Int) ≤ (q : Int) := by omega
          have q2 : q ≤ s.length := by omega
          have q2' : (q : Int) ≤ (s.length : Int) := by omega
          have q3 : q - b = n := by omega
          obtain ⟨t, ht⟩ : ∃ t, t = (s.drop b).take n := ⟨_, rfl⟩
          rw [← ht] at hR
          have wan : IntKind.i64.wrap ((a : Int) + (n : Int)) = ((a + n : Nat) : Int) := by rw [show (a : Int) + (n : Int) = ((a + n : Nat) : Int) by omega]; exact IntWalk.i64_in _ (by omega)
          by_cases n5 : n = 1
          · have e1 : ((n : Int) == 1) = true := by rw [n5]; rfl
            have bl : b < s.length := by omega
            have bl' : (b : Int) < (s.length : Int) := by omega
            have bb := nb_at bl
            by_cases c3 : (s.getD b 0).toNat < 128
            · have d3 : ((s.getD b 0).toNat : Int) < 128 := by omega
              rw [if_pos ⟨n5, c3⟩] at hR
              simp only [push_cast, seval, reduceCtorEq, hb6, wrap_i64' (show -9223372036854775808 ≤ (e : Int) - (b : Int) ∧ (e : Int) - (b : Int) ≤ 9223372036854775807 by omega), n1, e1, bl, bl', bb, d3, c3]
              refine CallsV.useM (m := stE bp s b m1 0) (Hf := []) (reffail_ok 11 a) (by rw [hSt]; simp only [push_cast, seval, reduceCtorEq, hb6]) rfl trivial ?_
              rintro v N ⟨rfl, rfl⟩
              refine ⟨⟨trivial, trivial⟩, rfl, fun hfr => ?_⟩
              clear hfr
              unfold stE
              simp only [push_cast, seval, reduceCtorEq, hb6, wan, wq, q1, q1', q2, q2', q3, ← ht]
              exact ⟨_, (List.nil_sublist _).cons_cons _, .text (t := t) (a := a) (m := m1) (.inl ⟨hR, by decide⟩)⟩
            · have d3 : ¬ ((s.getD b 0).toNat : Int) < 128 := by omega
              rw [if_neg (fun h => c3 h.2)] at hR
              simp only [push_cast, seval, reduceCtorEq, hb6, wrap_i64' (show -9223372036854775808 ≤ (e : Int) - (b : Int) ∧ (e : Int) - (b : Int) ≤ 9223372036854775807 by omega), n1, e1, bl, bl', bb, d3, c3, wq, q1, q1', q2, q2', q3, ← ht]
              exact ⟨_, (List.nil_sublist _).cons_cons _, .text (t := t) (a := q) (m := m1) (.inr ⟨by rw [hR, hq], rfl⟩)⟩
          · have e1 : ((n : Int) == 1) = false := by rw [beq_eq_false_iff_ne]; omega
            rw [if_neg (fun h => n5 h.1)] at hR
            simp only [push_cast, seval, reduceCtorEq, hb6, wrap_i64' (show -9223372036854775808 ≤ (e : Int) - (b : Int) ∧ (e : Int) - (b : Int) ≤ 9223372036854775807 by omega), n1, e1, wq, q1, q1', q2, q2', q3, ← ht]
            exact ⟨_, (List.nil_sublist _).cons_cons _, .text (t := t) (a := q) (m := m1) (.inr ⟨by rw [hR, hq], rfl⟩)⟩
        · have d2 : (192 : Int) ≤ (c.toNat : Int) := by omega
          rw [if_neg c2] at hR
          simp only [push_cast, seval, reduceCtorEq, hb6, dB, dC, cC, hal, hal', b0, wc, d1, c1, wm, d2, c2]
          refine CallsV.useM (m := stE bp s a m1 0) (Hf := []) (refsize_ok (k := 192) (by decide) hs he (by omega) (by rw [← hc]; omega) (by rw [← hc]; omega)) (by rw [hSt]; simp only [push_cast, seval, reduceCtorEq, hb6]) rfl trivial ?_
          rintro v N (⟨x, q, h2, hx, rfl, rfl⟩ | ⟨n, q, h2, hnq, hqe, hnl, rfl, rfl⟩ | ⟨n, b, z, h2, rfl, rfl⟩)
          · rw [h2] at hR
            refine ⟨⟨trivial, trivial⟩, rfl, fun hfr => ?_⟩
            clear hfr
            have x1 : ((x : Int) == 0) = false := by rw [beq_eq_false_iff_ne]; omega
            have x2 : ((x : Int) != 0) = true := by rw [bne_iff_ne]; omega
            unfold stE
            simp only [push_cast, seval, reduceCtorEq, hb6, x1, x2]
            exact ⟨_, (List.nil_sublist _).cons_cons _, .no hR hx⟩
          · rw [h2] at hR
            refine ⟨⟨trivial, trivial⟩, rfl, fun hfr => ?_⟩
            clear hfr
            have n1 : (e : Int) - (q : Int) < (n : Int) := by omega
            unfold stE
            simp only [push_cast, seval, reduceCtorEq, hb6, wrap_i64' (show -9223372036854775808 ≤ (e : Int) - (q : Int) ∧ (e : Int) - (q : Int) ≤ 9223372036854775807 by omega), n1]
            refine CallsV.useM (m := stE bp s q m1 0) (Hf := []) (reffail_ok 10 a) (by rw [hSt]; simp only [push_cast, seval, reduceCtorEq, hb6]) rfl trivial ?_
            rintro v N ⟨rfl, rfl⟩
            refine ⟨⟨trivial, trivial⟩, rfl, fun hfr => ?_⟩
            clear hfr
            unfold stE
            simp only [push_cast, seval, reduceCtorEq, hb6]
            exact ⟨_, (List.nil_sublist _).cons_cons _, .no hR (by decide)⟩
          obtain ⟨z1, z2, z3⟩ := sizeD_ok (by omega) he (by rw [← hc]; omega) (by rw [← hc]; omega) h2
          rw [h2] at hR
          dsimp only at hR
          refine ⟨⟨trivial, trivial⟩, rfl, fun hfr => ?_⟩
          clear hfr
          have n1 : ¬ (e : Int) - (b : Int) < (n : Int) := by omega
          obtain ⟨q, hq⟩ : ∃ q, q = b + n := ⟨_, rfl⟩
          have wq : IntKind.i64.wrap ((b : Int) + (n : Int)) = (q : Int) := by rw [show (b : Int) + (n : Int) = (q : Int) by omega]; exact IntWalk.i64_in _ (by omega)
          unfold stE
          simp only [push_cast, seval, reduceCtorEq, hb6, wrap_i64' (show -9223372036854775808 ≤ (e : Int) - (b : Int) ∧ (e : Int) - (b : Int) ≤ 9223372036854775807 by omega), n1, wq]
          intro b12 hb12
          obtain ⟨L, hL⟩ : ∃ L, L = listD (fun a m => itemD s d q a m) q (s.length + 1) b m1 [] := ⟨_, rfl⟩
          rw [← hq, ← hL] at hR
          refine loopO gO9_ok (pl := plI2) Tryz.mix (X := {x : ((Nat × (Nat × Nat × Nat)) × (List Iv × Value)) × (Hp × Hp) // freshN x.2.1 x.2.2 ∧ fresh b12 (x.2.1 ++ x.2.2) ∧ fresh b6 (x.2.1 ++ x.2.2) ∧ fresh bp (x.2.1 ++ x.2.2)})
            (fun x => ([(0, .pointer (some ⟨bp, 0, none⟩)), (2, .int .i64 (i : Int)), (6, .pointer (some ⟨b6, 0, none⟩)), (10, .int .i64 (n : Int)), (11, .int .i64 (b : Int)), (12, .pointer (some ⟨b12, 0, none⟩))],
              xE b12 x.1.1.2.2 :: stE bp s x.1.1.1.2.1 x.1.1.1.2.2.1 x.1.1.1.2.2.2 :: zE b6 :: (x.1.2.1 ++ x.1.2.2)))
            (fun x => ((x.1.1.1.2.2.2 = 0 ∧ listD (fun a m => itemD s d q a m) q x.1.1.1.1 x.1.1.1.2.1 x.1.1.1.2.2.1 (x.1.1.2.1.map Iv.it) = L ∧ x.1.1.1.2.1 ≤ q ∧ x.1.1.1.2.2.1 ≤ 5000 ∧ q - x.1.1.1.2.1 < x.1.1.1.1 ∧ x.1.1.2.1.length ≤ x.1.1.1.2.2.1) ∨ (x.1.1.1.2.2.2 ≠ 0 ∧ L = .bad x.1.1.1.2.2.2 x.1.1.1.2.1)) ∧ x.1.1.2.1.length ≤ 5001 ∧
              OutG 29 3 (x.1.1.2.1.flatMap Iv.cells) x.1.1.2.1.length x.1.1.2.2 x.1.2.1 ∧ (∀ y ∈ x.1.1.2.1, IvOk x.1.2.2 y) ∧ allWr x.1.2.2 ∧ marksOf x.1.2.2 = [])
            (fun x => x.1.1.1.1) ⟨(((s.length + 1, (b, (m1, 0))), ([], .slice none 0 0)), ([], [])), ⟨trivial, trivial, trivial, trivial⟩⟩ ?_ ?_ (by kernel_rfl) ?_
          · exact ⟨.inl ⟨rfl, hL.symm, by dsimp only; omega, by dsimp only; omega, by dsimp only; omega, Nat.zero_le _⟩, Nat.zero_le _, .inl ⟨rfl, rfl, rfl, rfl⟩, fun y hy => absurd hy (by simp), trivial, rfl⟩
          · unfold xE zE stE
            simp only [push_cast, seval, reduceCtorEq, hb12]
            rfl
          · rintro ⟨⟨⟨⟨k, ⟨a, ⟨m, e'⟩⟩⟩, ⟨ks, sv⟩⟩, ⟨N, M⟩⟩, hNM, q12, q6, qp⟩ ⟨hcase, hkl, ho, hok, hwM, hmM⟩
            dsimp only at hNM q12 q6 qp hcase hkl ho hok hwM hmM ⊢
            obtain ⟨pk, ck, rfl⟩ := ho.slice
            have mNM : marksOf (N ++ M) = [] := by rw [marks_append, ho.wr.2, hmM]; rfl
            have good : ∀ (e' : Nat), (R = .bad e' a ∧ e' ≠ 0) ∨ (R = .ok (.mk true [] (ks.map Iv.it)) a m ∧ e' = 0) → ItemK2 bp s R (.agg #[.bool true, .string (bs []), .slice pk ks.length ck]) (stE bp s a m e' :: (N ++ M)) := fun e' h =>
              ⟨.mk true [] (.slice pk ks.length ck) ks, N ++ M, a, m, e', rfl, rfl, ⟨allWr_app ho.wr.1 hwM, mNM, qp⟩, .mk _ (ho.liR rfl rfl M) (by show ks.length ≤ _; omega) fun y hy => (hok y hy).ext (Ext.front hmM ho.wr.2 hNM), by simp only [Iv.it]; rw [Iv.its_map]; exact h⟩
            rcases hcase with ⟨rfl, hLk, haq, hm5, hk, hkm⟩ | ⟨he', hLb⟩
            case inr =>
              have x1 : ((e' : Int) == 0) = false := by rw [beq_eq_false_iff_ne]; omega
              unfold xE zE stE
              simp only [push_cast, seval, reduceCtorEq, hb6, hb12, x1]
              refine ⟨stE bp s a m e' :: (N ++ M), ?_, good e' (.inl ⟨by rw [hR, hLb]; rfl, he'⟩)⟩
              rw [dropM_eq mNM]
              exact (((List.Sublist.refl _).cons _).cons_cons _).cons _
            rcases Nat.lt_or_ge a q with hlt | hge
            case inr =>
              have x1 : ¬ (a : Int) < (q : Int) := by omega
              have hke : L = .ok (ks.map Iv.it) a m := by
                rw [← hLk]
                cases k with
                | zero => omega
                | succ k => rw [listD, if_neg (by omega)]
              unfold xE zE stE
              simp only [push_cast, seval, reduceCtorEq, hb6, hb12, wq, x1]
              refine ⟨stE bp s a m 0 :: (N ++ M), ?_, good 0 (.inr ⟨by rw [hR, hke]; rfl, rfl⟩)⟩
              rw [dropM_eq mNM]
              exact (((List.Sublist.refl _).cons _).cons_cons _).cons _
            have x1 : (a : Int) < (q : Int) := by omega
            unfold xE zE stE
            simp only [push_cast, seval, reduceCtorEq, hb6, hb12, wq, x1]
            refine drawC gO9_ok Tryz.mix [(0, .pointer (some ⟨bp, 0, none⟩)), (2, .int .i64 (i : Int)), (6, .pointer (some ⟨b6, 0, none⟩)), (10, .int .i64 (n : Int)), (11, .int .i64 (b : Int)), (12, .pointer (some ⟨b12, 0, none⟩))] [8, 9, 10, 12]
              (fun w => match w with
                | 0 => .pointer (some ⟨b12, 2, none⟩)
                | 1 => .slice pk ks.length ck
                | 2 => .pointer (some ⟨bp, 0, none⟩)
                | 3 => .int .i64 (b : Int)
                | 4 => .int .i64 (n : Int)
                | 5 => .int .i64 (q : Int)
                | 6 => .int .i64 (i : Int)
                | 7 => .int .i64 ((i : Int) + 1)
                | 11 => .pointer (some ⟨b12, 2, none⟩)
                | _ => undef)
              (ItSt bp b12 b6 s (itemD s d q a m) a m ks (.slice pk ks.length ck) N M) (by kernel_rfl) (by kernel_rfl) (by kernel_rfl) ⟨rfl, rfl, rfl, rfl, rfl, rfl, trivial⟩ (by kernel_rfl) rfl ?_ ?_ ?_
            · intro w o ho hni k0 vals T' H' hst hap hv hdep hq1 hq2 hT
              have hi := (Array.getElem?_eq_some_iff.1 ho).1
              replace hi : w < 13 := hi
              have t0 : getT T' 0 = some (.pointer (some ⟨bp, 0, none⟩)) := hT.1
              have t2 : getT T' 2 = some (.int .i64 (i : Int)) := hT.2.1
              have t10 : getT T' 10 = some (.int .i64 (n : Int)) := hT.2.2.2.1
              have t11 : getT T' 11 = some (.int .i64 (b : Int)) := hT.2.2.2.2.1
              have t12 : getT T' 12 = some (.pointer (some ⟨b12, 0, none⟩)) := hT.2.2.2.2.2.1
              simp only [List.mem_cons, List.not_mem_nil, or_false, not_or] at hni
              obtain rfl | rfl | rfl | rfl | rfl | rfl | rfl | rfl | rfl : w = 0 ∨ w = 1 ∨ w = 2 ∨ w = 3 ∨ w = 4 ∨ w = 5 ∨ w = 6 ∨ w = 7 ∨ w = 11 := by omega
              all_goals simp only [List.getElem?_toArray, List.getElem?_cons_zero, List.getElem?_cons_succ, Option.some.injEq] at ho; subst ho
              · simp only [push_cast, seval, reduceCtorEq, t12]
              · have g0 := (hdep 0 (by kernel_rfl) 168 rfl).trans (congrArg some (hv 0 (by decide)))
                have hk2 : k0 ≤ 2 := hq1 2 10 rfl (by kernel_rfl)
                rcases k0 with _ | _ | _ | k0
                · obtain rfl : H' = _ := hst
                  simp only [push_cast, seval, reduceCtorEq, g0, xE]
                · obtain ⟨y, Nk, a', m', e', hQ, h8, rfl⟩ := hst
                  simp only [push_cast, seval, reduceCtorEq, g0, xE, stE, hb12]
                · obtain ⟨y, Nk, a', m', e', b9, hQ, h9, rfl⟩ := hst
                  have n9 : b9 ≠ b12 := (List.pairwise_cons.1 hap).1 (xE b12 _) (.tail _ (.head _)) (.inl trivial)
                  have n9' : ¬ b12 = b9 := fun h => n9 h.symm
                  simp only [push_cast, seval, reduceCtorEq, g0, xE, stE, vE, hb12, n9, n9']
                · omega
              · simp only [push_cast, seval, reduceCtorEq, t0]
              · simp only [push_cast, seval, reduceCtorEq, t11]
              · simp only [push_cast, seval, reduceCtorEq, t10]
              · have g3 := (hdep 3 (by kernel_rfl) 171 rfl).trans (congrArg some (hv 3 (by decide)))
                have g4 := (hdep 4 (by kernel_rfl) 172 rfl).trans (congrArg some (hv 4 (by decide)))
                simp only [push_cast, seval, reduceCtorEq, g3, g4, wq]
              · simp only [push_cast, seval, reduceCtorEq, t2]
              · have g6 := (hdep 6 (by kernel_rfl) 174 rfl).trans (congrArg some (hv 6 (by decide)))
                simp only [push_cast, seval, reduceCtorEq, g6, wrap_i64' (show -9223372036854775808 ≤ (i : Int) + 1 ∧ (i : Int) + 1 ≤ 9223372036854775807 by omega)]
              · simp only [push_cast, seval, reduceCtorEq, t12]
            · intro k0 c0 o hk0 ho vals T' H' hst hap hv hdep hT
              rcases k0 with _ | _ | _ | _ | k0
              · obtain rfl : 8 = c0 := Option.some.inj hk0
                simp only [List.getElem?_toArray, List.getElem?_cons_zero, List.getElem?_cons_succ, Option.some.injEq] at ho; subst ho
                obtain rfl : H' = _ := hst
                have g2 := (hdep 2 (by kernel_rfl) 170 rfl).trans (congrArg some (hv 2 (by decide)))
                have g5 := (hdep 5 (by kernel_rfl) 173 rfl).trans (congrArg some (hv 5 (by decide)))
                have g7 := (hdep 7 (by kernel_rfl) 175 rfl).trans (congrArg some (hv 7 (by decide)))
                simp only [push_cast, seval, reduceCtorEq, g2, g5, g7]
                refine CallsV.useM (m := stE bp s a m 0) (Hf := []) (ih (i + 1) (by omega) q a m (by omega) (by omega) hm5) (by unfold xE stE zE; simp only [push_cast, seval, reduceCtorEq, hb12]) rfl trivial ?_
                have hrem : remE (xE b12 (.slice pk ks.length ck) :: stE bp s a m 0 :: zE b6 :: (N ++ M)) (stE bp s a m 0).blk = xE b12 (.slice pk ks.length ck) :: zE b6 :: (N ++ M) := by unfold xE stE zE; simp only [push_cast, seval, reduceCtorEq, hb12]
                rw [hrem]
                rintro v N2 ⟨y, Nk, a', m', e', rfl, rfl, ⟨hw, hmk, hf⟩, hy, hc⟩
                refine ⟨⟨trivial, hw⟩, by rw [show stE bp s a' m' e' :: Nk = [stE bp s a' m' e'] ++ Nk from rfl, marks_append, hmk]; rfl, fun hfr => ?_⟩
                refine ⟨stE bp s a' m' e' :: xE b12 (.slice pk ks.length ck) :: zE b6 :: (N ++ (Nk ++ M)), ?_, ?_, ⟨y, Nk, a', m', e', ⟨⟨hw, hmk⟩, hy, hc⟩, upd_self .., rfl⟩⟩
                · classical
                  refine List.perm_iff_count.2 fun z => ?_
                  simp only [List.count_append, List.count_cons, List.cons_append]
                  omega
                · unfold xE stE zE
                  simp [marks_append, marksOf, hmk]
              · obtain rfl : 9 = c0 := Option.some.inj hk0
                simp only [List.getElem?_toArray, List.getElem?_cons_zero, List.getElem?_cons_succ, Option.some.injEq] at ho; subst ho
                obtain ⟨y, Nk, a', m', e', hQ, h8, rfl⟩ := hst
                have g8 := (hdep 8 (by kernel_rfl) 176 rfl).trans (congrArg some h8)
                have il : y.v.cells.toList = y.cells := rfl
                have yl3 : y.cells.length = 3 := rfl
                have yall : y.cells.all oneC = true := Iv.all1 hQ.2.1.one
                simp only [push_cast, seval, reduceCtorEq, g8, il, yl3, yall]
                intro bb hbb
                exact ⟨_, List.Perm.refl _, rfl, ⟨y, Nk, a', m', e', bb, hQ, upd_self .., rfl⟩⟩
              · obtain rfl : 10 = c0 := Option.some.inj hk0
                simp only [List.getElem?_toArray, List.getElem?_cons_zero, List.getElem?_cons_succ, Option.some.injEq] at ho; subst ho
                obtain ⟨y, Nk, a', m', e', b9, hQ, h9, rfl⟩ := hst
                have g1 := (hdep 1 (by kernel_rfl) 169 rfl).trans (congrArg some (hv 1 (by decide)))
                have g9 := (hdep 9 (by kernel_rfl) 177 rfl).trans (congrArg some h9)
                simp only [push_cast, seval, reduceCtorEq, g1, g9]
                obtain ⟨⟨hw, hmk⟩, hy, hc⟩ := hQ
                have h5 := (freshN_mono (A := N) (B := Nk ++ M) (freshN_apart (A := [vE b9 y, stE bp s a' m' e', xE b12 (.slice pk ks.length ck), zE b6]) hap ⟨trivial, trivial, trivial, trivial, trivial⟩)).1
                have hkb : (ks.length + 1) * 48 ≤ two47 := by unfold two47; omega
                refine push_hA (P := Tryz.prog) (c := Iv.cells) (x := y) [stE bp s a' m' e', xE b12 (.slice pk ks.length ck), zE b6] (by_ := 48) (q := 3) (ag := true) ho h5 (by simp only [push_cast, seval, reduceCtorEq]) (by simp only [push_cast, seval, reduceCtorEq]) rfl (Iv.all1 hy.one) hkb fun v3 N3 ho4 hf4 => ?_
                refine ⟨xE b12 (.slice pk ks.length ck) :: stE bp s a' m' e' :: zE b6 :: (N3 ++ (vE b9 y :: (Nk ++ M))), ?_, ?_, ⟨y, Nk, a', m', e', b9, N3, ⟨⟨hw, hmk⟩, hy, hc⟩, by rw [upd_self]; exact ho4, rfl⟩⟩
                · show List.Perm (N3 ++ vE b9 y :: stE bp s a' m' e' :: xE b12 (.slice pk ks.length ck) :: zE b6 :: (Nk ++ M)) _
                  classical
                  refine List.perm_iff_count.2 fun z => ?_
                  simp only [List.count_append, List.count_cons, List.cons_append]
                  omega
                · unfold xE stE zE vE
                  simp [marks_append, marksOf, hmk, ho4.wr.2]
              · obtain rfl : 12 = c0 := Option.some.inj hk0
                simp only [List.getElem?_toArray, List.getElem?_cons_zero, List.getElem?_cons_succ, Option.some.injEq] at ho; subst ho
                obtain ⟨y, Nk, a', m', e', b9, N3, hQ, ho3, rfl⟩ := hst
                obtain ⟨p3, k3, hv3⟩ := ho3.slice
                have g11 := (hdep 11 (by kernel_rfl) 179 rfl).trans (congrArg some (hv 11 (by decide)))
                have g10 := (hdep 10 (by kernel_rfl) 178 rfl).trans (congrArg some hv3)
                simp only [push_cast, seval, reduceCtorEq, g11, g10, xE]
                refine ⟨xE b12 (vals 10) :: stE bp s a' m' e' :: zE b6 :: (N3 ++ (vE b9 y :: (Nk ++ M))), ?_, ?_, ⟨y, Nk, a', m', e', b9, vals 10, N3, hQ, ho3, rfl⟩⟩
                · rw [hv3, List.length_append]; exact List.Perm.refl _
                · rfl
              · simp at hk0
            · rintro vals H' ⟨y, Nk, a', m', e', b9, v', N3, hQ, ho3, rfl⟩ hap hv
              obtain ⟨⟨hw, hmk⟩, hy, hc⟩ := hQ
              obtain ⟨M2, hM2⟩ : ∃ M2, M2 = vE b9 y :: (Nk ++ M) := ⟨_, rfl⟩
              rw [← hM2] at hap ⊢
              have w2 : allWr M2 := by rw [hM2]; exact ⟨trivial, allWr_app hw hwM⟩
              have mk2 : marksOf M2 = [] := by
                rw [hM2, show vE b9 y :: (Nk ++ M) = [vE b9 y] ++ (Nk ++ M) from rfl, marks_append, marks_append, hmk, hmM]; rfl
              have f3 := freshN_apart (A := [xE b12 v', stE bp s a' m' e', zE b6]) hap ⟨trivial, trivial, trivial, trivial⟩
              have hapr : ApartE (N3 ++ M2) := (List.pairwise_cons.1 (List.pairwise_cons.1 (List.pairwise_cons.1 hap).2).2).2
              have f4 : freshN N3 M2 := freshN_apart hapr ho3.wr.1
              have hap2 : ApartE (vE b9 y :: (Nk ++ M)) := by rw [← hM2]; exact (List.pairwise_append.1 hapr).2.1
              have f5 : freshN (vE b9 y :: Nk) M := freshN_apart (A := vE b9 y :: Nk) hap2 ⟨trivial, hw⟩
              have f6 : fresh b9 (Nk ++ M) := (freshN_apart (A := [vE b9 y]) hap2 ⟨trivial, trivial⟩).1
              have mk9 : marksOf (vE b9 y :: Nk) = [] := by rw [show vE b9 y :: Nk = [vE b9 y] ++ Nk from rfl, marks_append, hmk]; rfl
              have hxM : Ext M M2 := by rw [hM2]; exact Ext.front (N := vE b9 y :: Nk) hmM mk9 f5
              have hxN : Ext Nk M2 := by
                rw [hM2]
                have x1 : Ext Nk (Nk ++ M) := Ext.app hmk hmM
                exact x1.trans (Ext.cons x1.marks rfl f6)
              have hl2 : (ks ++ [y]).length = ks.length + 1 := by simp
              have hin : ∀ z ∈ ks ++ [y], IvOk M2 z := fun z hz => by
                rcases List.mem_append.1 hz with hz | hz
                · exact (hok z hz).ext hxM
                · rw [List.mem_singleton.1 hz]; exact hy.ext hxN
              obtain ⟨k', rfl⟩ : ∃ k', k = k' + 1 := ⟨k - 1, by omega⟩
              rw [listD, if_pos hlt] at hLk
              unfold xE zE stE
              simp only [push_cast, seval, reduceCtorEq, dstsL, hb12, hb6]
              refine ⟨⟨(((k', (a', (m', e'))), (ks ++ [y], v')), (N3, M2)), f4, f3.1, f3.2.2.1, f3.2.1⟩, ⟨?_, by dsimp only; omega, ho3, hin, w2, mk2⟩, Nat.lt_succ_self _, ?_⟩
              · rcases hc with ⟨hc, he0⟩ | ⟨hc, rfl⟩
                · rw [hc] at hLk
                  exact .inr ⟨he0, hLk.symm⟩
                · obtain ⟨g1, g2, g3, g4, g5, -⟩ := itemD_ok s d q (by omega) _ _ _ _ _ hc
                  have hcp := cntI_pos8 y.it
                  rw [hc] at hLk
                  dsimp only at hLk ⊢
                  refine .inl ⟨rfl, by rw [List.map_append]; exact hLk, g2, g5, by omega, by omega⟩
              · exact ⟨⟨rfl, rfl, subH_self _⟩, rfl⟩
end Go.Proofs.YtolmipnaheifcaaGreatDoor
set_option linter.unusedSimpArgs false
set_option linter.unusedVariables false
namespace Go.Proofs.YtolmipnaheifcaaGreatDoor
open Go Go.Ev Go.Proofs
set_option maxRecDepth 100000
set_option maxHeartbeats 4000000
theorem refFromBO (args : List Value) (v : Value) (h : fromBG args = some v) : CallsV Tryz.prog 30 args [] (Ret0 v) := by
  unfold fromBG at h
  split at h
  · split at h
    · rename_i hs; cases h; exact refFromBytes _ (by have := szB_of hs; omega)
    · cases h
  · cases h
noncomputable def gO10 : Gam := (addG 30 fromBG gO9)
attribute [push_cast] gO10
theorem gO10_ok : GamOk Tryz.prog gO10 := (addG_ok refFromBO gO9_ok)
attribute [push_cast] gO10
theorem refval_ok (l : Bool) (b : List UInt8) (p : Option Addr) (n c : Nat) (hn : n ≤ 1099511627776) (hb : b.length ≤ 1099511627776) : CallsV Tryz.prog 13 [.agg #[.bool l, .string (bs b), .slice p n c]] [] (Ret0 (.tuple #[(valP l b n).1.v, .bool (valP l b n).2])) := by
  obtain ⟨R, hR⟩ : ∃ R, R = valP l b n := ⟨_, rfl⟩
  rw [← hR]
  unfold valP at hR
  have b0 : (ByteArray.mk #[]).toList = [] := bs_toList []
  have b1 : (([] : List UInt8) == []) = true := rfl
  refine callsO gO10_ok Tryz.mix (fun i => if i = 1 then [(0, 9)] else Tryz.pl13 i) Tryz.func13 rfl Tryz.ntmps13 Tryz.results13 rfl (by first | rfl | assumption) (Nat.le_of_ble_eq_true rfl) (by kernel_rfl) ?_
  simp only [push_cast, seval, reduceCtorEq]
  intro c1 c2 hc2
  refine regO gO10_ok ?_
  cases l with
  | true =>
    rw [if_pos (.inl rfl)] at hR
    simp only [push_cast, seval, reduceCtorEq, hc2]
    rw [hR]
  | false =>
    by_cases c1 : 0 < n
    · have d1 : (0 : Int) < (n : Int) := by omega
      rw [if_pos (.inr (.inl c1))] at hR
      simp only [push_cast, seval, reduceCtorEq, hc2, d1]
      rw [hR]
    have d1 : ¬ (0 : Int) < (n : Int) := by omega
    by_cases c2 : 32 < b.length
    · have d2 : (32 : Int) < (b.length : Int) := by omega
      rw [if_pos (.inr (.inr (.inl c2)))] at hR
      simp only [push_cast, seval, reduceCtorEq, hc2, d1, d2]
      rw [hR]
    have d2 : ¬ (32 : Int) < (b.length : Int) := by omega
    have hsz : szB b.length = true := szB_in (by omega)
    cases b with
    | nil =>
      rw [if_neg (by rintro (h | h | h | h) <;> first | omega | cases h)] at hR
      have hs0 : szB 0 = true := hsz
      simp only [push_cast, seval, reduceCtorEq, hc2, d1, d2, b0, b1, hs0]
      rw [hR]
    | cons y r =>
      have h1 : ((y :: r) == ([] : List UInt8)) = false := rfl
      have z0 : (bs (y :: r)).data[0]? = some y := rfl
      obtain ⟨B, hB⟩ : ∃ B, B = y :: r := ⟨_, rfl⟩
      have hBl : B.length = r.length + 1 := by rw [hB]; rfl
      have l0 : 0 < B.length := by omega
      have l0' : (0 : Int) < (B.length : Int) := by omega
      have nz : noZ B = (y == 0) := by rw [hB]; rfl
      rw [← hB] at h1 z0 d2 c2 hsz hR ⊢
      cases hz : noZ B with
      | true =>
        have e0 : ((y.toNat : Int) == 0) = true := by rw [nz, beq_iff_eq] at hz; rw [hz]; rfl
        rw [if_pos (.inr (.inr (.inr hz)))] at hR
        simp only [push_cast, seval, reduceCtorEq, hc2, d1, d2, b0, h1, l0, l0', z0, e0]
        rw [hR]
      | false =>
        have e0 : ((y.toNat : Int) == 0) = false := by rw [nz, beq_eq_false_iff_ne] at hz; exact beq_eq_false_iff_ne.2 fun h => hz (UInt8.toNat_inj.1 (show y.toNat = 0 by omega))
        rw [if_neg (by rw [hz]; rintro (h | h | h | h) <;> first | omega | cases h)] at hR
        simp only [push_cast, seval, reduceCtorEq, hc2, d1, d2, b0, h1, l0, l0', z0, e0, hsz]
        rw [hR]
theorem refvalG_ok (args : List Value) (v : Value) (h : rvalG args = some v) : CallsV Tryz.prog 13 args [] (Ret0 v) := by
  unfold rvalG at h
  split at h
  · split at h
    · rename_i l b p n c hn
      cases h
      obtain ⟨m, rfl⟩ := bs_of b
      rw [bs_data]
      exact refval_ok l m p n c hn.1 hn.2
    · cases h
  · cases h
noncomputable def gO11 : Gam := (addG 13 rvalG gO10)
attribute [push_cast] gO11
theorem gO11_ok : GamOk Tryz.prog gO11 := (addG_ok refvalG_ok gO10_ok)
attribute [push_cast] gO11
theorem refsame_ok (x : Iv) : ∀ (y : Iv) (M0 : Hp), roM M0 → IvOk M0 x → IvOk M0 y → CallsV Tryz.prog 17 [x.v, y.v] M0 (Ret0 (.bool (sameI x.it y.it))) := by
  induction x using Iv.ind with
  | h x ih =>
    intro y M0 hr hx hy
    have hm := hr.marks
    have e := sameI_eq x.it y.it
    rw [Iv.it_list, Iv.it_list, Iv.it_bytes, Iv.it_bytes, Iv.it_kids, Iv.it_kids] at e
    have hlx := hx.li
    have hly := hy.li
    have hc : ∀ k ∈ x.kids, ∀ l ∈ y.kids, ∀ M1, roM M1 → cellsAt M1 = cellsAt M0 → CallsV Tryz.prog 17 [k.v, l.v] M1 (Ret0 (.bool (sameI k.it l.it))) := fun k hk l hl M1 hr1 he1 => ih k hk l M1 hr1 ((hx.kid k hk).congr he1.symm) ((hy.kid l hl).congr he1.symm)
    have o1 : ∀ k ∈ x.kids, oneC k.sv = true := fun k hk => (hx.kid k hk).one
    have o2 : ∀ k ∈ y.kids, oneC k.sv = true := fun k hk => (hy.kid k hk).one
    have nx := hx.len
    have ny := hy.len
    obtain ⟨xl, xb, xs, xk⟩ := x
    obtain ⟨yl, yb, ys, yk⟩ := y
    replace hlx : LiR Iv.cells 3 M0 xk xs := hlx
    replace hly : LiR Iv.cells 3 M0 yk ys := hly
    replace hc : ∀ k ∈ xk, ∀ l ∈ yk, ∀ M1, roM M1 → cellsAt M1 = cellsAt M0 → CallsV Tryz.prog 17 [k.v, l.v] M1 (Ret0 (.bool (sameI k.it l.it))) := hc
    replace o1 : ∀ k ∈ xk, oneC k.sv = true := o1
    replace o2 : ∀ k ∈ yk, oneC k.sv = true := o2
    replace nx : xk.length ≤ 1099511627776 := nx
    replace ny : yk.length ≤ 1099511627776 := ny
    obtain ⟨p, c, rfl, hla⟩ := hlx.openC Iv.len (by decide)
    obtain ⟨p', c', rfl, hra⟩ := hly.openC Iv.len (by decide)
    show CallsV Tryz.prog 17 [.agg #[.bool xl, .string (bs xb), .slice p xk.length c], .agg #[.bool yl, .string (bs yb), .slice p' yk.length c']] M0 _
    replace e : sameI (Iv.mk xl xb (.slice p xk.length c) xk).it (Iv.mk yl yb (.slice p' yk.length c') yk).it = (xl == yl && (xb == yb && samesI (xk.map Iv.it) (yk.map Iv.it))) := e
    rw [e]
    refine callsO gO11_ok Tryz.mix (fun i => if i = 1 then [(0, 9)] else Tryz.pl17 i) Tryz.func17 rfl Tryz.ntmps17 Tryz.results17 rfl (by first | rfl | assumption) (Nat.le_of_ble_eq_true rfl) (by kernel_rfl) ?_
    simp only [push_cast, seval, reduceCtorEq]
    intro b2 hb2 b3 hb3
    refine regO gO11_ok ?_
    by_cases c1 : xl = yl
    case neg =>
      have d1 : (xl == yl) = false := beq_eq_false_iff_ne.2 c1
      simp only [push_cast, seval, reduceCtorEq, hb3, d1]
    have d1 : (xl == yl) = true := by rw [c1]; exact beq_self_eq_true _
    by_cases c2 : xb = yb
    case neg =>
      have d2 : (xb == yb) = false := beq_eq_false_iff_ne.2 c2
      simp only [push_cast, seval, reduceCtorEq, hb3, d1, d2]
    have d2 : (xb == yb) = true := by rw [c2]; exact beq_self_eq_true _
    by_cases c3 : xk.length = yk.length
    case neg =>
      have d3 : (((xk.length : Nat) : Int) != ((yk.length : Nat) : Int)) = true := by rw [bne_iff_ne]; omega
      have es : samesI (xk.map Iv.it) (yk.map Iv.it) = false := samesI_f fun h => c3 (by have := congrArg List.length h; rwa [List.length_map, List.length_map] at this)
      simp only [push_cast, seval, reduceCtorEq, hb3, d1, d2, d3, es]
    have d3 : (((xk.length : Nat) : Int) != ((yk.length : Nat) : Int)) = false := by rw [c3]; exact bne_self_eq_false _
    simp only [push_cast, seval, reduceCtorEq, hb3, d1, d2, d3]
    have r1 : (xl == yl && (xb == yb && samesI (xk.map Iv.it) (yk.map Iv.it))) = samesI (xk.map Iv.it) (yk.map Iv.it) := by rw [d1, d2]; rfl
    try rw [r1]
    refine loopO gO11_ok (pl := Tryz.pl17) Tryz.mix (X := Nat)
      (fun i => ([(2, .pointer (some ⟨b2, 0, none⟩)), (3, .pointer (some ⟨b3, 0, none⟩)), (5, .int .i64 (i : Int))], ⟨b3, 0, .cel 29, [.bool yl, .string (bs yb), .slice p' yk.length c']⟩ :: ⟨b2, 0, .cel 29, [.bool xl, .string (bs xb), .slice p xk.length c]⟩ :: M0))
      (fun i => i ≤ xk.length ∧ (xk.take i).map Iv.it = (yk.take i).map Iv.it) (fun i => xk.length - i) 0 ?_ ?_ (by kernel_rfl) ?_
    · exact ⟨Nat.zero_le _, rfl⟩
    · simp only [push_cast, seval, reduceCtorEq, subH_self]
      try exact ⟨rfl, rfl⟩
    · rintro i ⟨hi, ht⟩
      dsimp only at hi ht ⊢
      rcases Nat.lt_or_ge i xk.length with hlt | hge
      · obtain ⟨x, hxi⟩ : ∃ x, xk[i]? = some x := ⟨xk[i], List.getElem?_eq_getElem hlt⟩
        obtain ⟨y, hyi⟩ : ∃ y, yk[i]? = some y := ⟨yk[i]'(by omega), List.getElem?_eq_getElem (by omega)⟩
        rcases hla with rfl | ⟨b, f, d, kd, cs, rfl, he, hat⟩
        · simp at hxi
        rcases hra with rfl | ⟨b', f', d', kd', cs', rfl, he', hat'⟩
        · simp at hyi
        have hxm := List.mem_of_getElem? hxi
        have hym := List.mem_of_getElem? hyi
        obtain ⟨a1, a2⟩ := hat i x hxi
        obtain ⟨q1, q2⟩ := hat' i y hyi
        have a0 : x.cells.all oneC = true := Iv.all1 (o1 x hxm)
        have b0 : y.cells.all oneC = true := Iv.all1 (o2 y hym)
        have x3 : List.take 3 x.cells = x.cells := rfl
        have y3 : List.take 3 y.cells = y.cells := rfl
        have xv : Value.agg x.cells.toArray = x.v := rfl
        have yv : Value.agg y.cells.toArray = y.v := rfl
        have i1 : (i : Int) < (xk.length : Int) := by omega
        have i2 : (i : Int) < (yk.length : Int) := by omega
        have i3 : i < yk.length := by omega
        have f2M : fresh b2 M0 := hb2
        have f3M : fresh b3 M0 := hb3.2.2
        have m1 := (fresh_findS f2M he).2
        have m2 := (fresh_findS f3M he).2
        have m3 := (fresh_findS f2M he').2
        have m4 := (fresh_findS f3M he').2
        simp only [push_cast, seval, reduceCtorEq, i1, i2, i3, hlt, hb3, m1, m2, m3, m4, he, he', a1, a2, q1, q2, a0, b0, Iv.len, x3, y3, xv, yv]
        refine takeP6 [_, _] (fun M1 hr1 he1 => hc x hxm y hym M1 hr1 he1) ⟨f3M, f2M, trivial⟩ ?_
        by_cases hxy : x.it = y.it
        · simp only [push_cast, seval, reduceCtorEq, sameI_t hxy, wrap_i64' (show -9223372036854775808 ≤ (i : Int) + 1 ∧ (i : Int) + 1 ≤ 9223372036854775807 by omega)]
          refine ⟨i + 1, ⟨hlt, ?_⟩, by omega, rfl⟩
          rw [List.take_add_one, List.take_add_one, hxi, hyi, List.map_append, List.map_append, ht]
          simp [hxy]
        · have es : samesI (xk.map Iv.it) (yk.map Iv.it) = false := samesI_f fun h => hxy (by
            have h1 : (xk.map Iv.it)[i]? = some x.it := by rw [List.getElem?_map, hxi]; rfl
            have h2 : (yk.map Iv.it)[i]? = some y.it := by rw [List.getElem?_map, hyi]; rfl
            rw [h, h2] at h1
            exact (Option.some.inj h1).symm)
          simp only [push_cast, seval, reduceCtorEq, sameI_f hxy, es]
      · obtain rfl : i = xk.length := by omega
        have es : samesI (xk.map Iv.it) (yk.map Iv.it) = true := samesI_t (by
          rw [List.take_length, c3, List.take_length] at ht; exact ht)
        simp only [push_cast, seval, reduceCtorEq, Nat.lt_irrefl, Int.lt_irrefl, hb3, es]
theorem refsame_R {M : Hp} {x y : Iv} (hx : IvOk M x) (hy : IvOk M y) : ∀ M0, roM M0 → cellsAt M0 = cellsAt M → CallsV Tryz.prog 17 [x.v, y.v] M0 (Ret0 (.bool (sameI x.it y.it))) := fun M0 hr he => refsame_ok x y M0 hr (hx.congr he.symm) (hy.congr he.symm)
end Go.Proofs.YtolmipnaheifcaaGreatDoor
set_option linter.unusedSimpArgs false
set_option linter.unusedVariables false
namespace Go.Proofs.YtolmipnaheifcaaGreatDoor
open Go Go.Ev Go.Proofs
set_option maxRecDepth 100000
set_option maxHeartbeats 4000000
theorem refdecode_ok {M : Hp} (s : List UInt8) (hs : s.length ≤ 1099511627776) : CallsR Tryz.prog 22 [.string (bs s)] M (DecQ s) := by
  intro M0 hr he
  have hm := hr.marks
  have hSt : ∀ b a m e, stE b s a m e = ⟨b, 0, .cel 75, [.string (bs s), .int .i64 (a : Int), .int .i64 (m : Int), .int .i64 (e : Int)]⟩ := fun _ _ _ _ => rfl
  refine callsO gO11_ok Tryz.mix Tryz.pl22 Tryz.func22 rfl Tryz.ntmps22 Tryz.results22 rfl (by first | rfl | assumption) (Nat.le_of_ble_eq_true rfl) (by kernel_rfl) ?_
  simp only [push_cast, seval, reduceCtorEq]
  intro b2 hb2
  by_cases hlt : 1048576 < s.length
  · have d1 : (1048576 : Int) < (s.length : Int) := by omega
    simp only [push_cast, seval, reduceCtorEq, hb2, d1]
    refine ⟨[], List.nil_sublist _, trivial, rfl, fun _ => ⟨.mk false [] (.slice none 0 0) [], 2, 0, rfl, ?_, IvOk.text _ _ _ _⟩⟩
    unfold decD
    rw [if_pos hlt]
    simp only [Iv.it, Iv.its]
    rfl
  have d1 : ¬ (1048576 : Int) < (s.length : Int) := by omega
  simp only [push_cast, seval, reduceCtorEq, hb2, d1]
  intro b5 hb5
  try simp only [push_cast, seval, reduceCtorEq, hb5]
  refine CallsV.useM (m := stE b5 s 0 0 0) (Hf := []) (refitem_ok (by omega) 16 0 rfl s.length 0 0 (Nat.le_refl _) (Nat.zero_le _) (Nat.zero_le _)) (by unfold stE; simp only [push_cast, seval, reduceCtorEq, hb5]) rfl trivial ?_
  have hrem : remE (⟨b5, 0, .cel 75, [.string (bs s), .int .i64 0, .int .i64 0, .int .i64 0]⟩ :: ⟨b2, 0, .cel 29, [.bool false, .string ByteArray.empty, .slice none 0 0]⟩ :: M0) (stE b5 s 0 0 0).blk = ⟨b2, 0, .cel 29, [.bool false, .string ByteArray.empty, .slice none 0 0]⟩ :: M0 := by unfold stE; simp only [push_cast, seval, reduceCtorEq]
  rw [hrem]
  have hW : decD s = match wholeD s with
    | .bad x p => (noI, x, p)
    | .ok x _ _ => (x, 0, 0) := by unfold decD; rw [if_neg hlt]; rfl
  unfold wholeD at hW
  rintro v N ⟨y, Nk, a', m', e', rfl, rfl, ⟨hwk, hmk, hdk⟩, hyk, hc⟩
  refine ⟨⟨trivial, hwk⟩, by rw [show stE b5 s a' m' e' :: Nk = [stE b5 s a' m' e'] ++ Nk from rfl, marks_append, hmk]; rfl, fun hfr => ?_⟩
  obtain ⟨f5, fk⟩ := hfr
  have f2 : fresh b2 Nk := (freshN_sym fk).1
  have fkM : freshN Nk M0 := (freshN_mono (A := [_]) (B := M0) fk).2
  obtain ⟨yl, yb, yv, yks⟩ := y
  obtain ⟨py, cy, hsy, -⟩ := id hyk.li
  replace hsy : yv = .slice py yks.length cy := hsy
  subst hsy
  have hyv : (Iv.mk yl yb (.slice py yks.length cy) yks).v = .agg #[.bool yl, .string (bs yb), .slice py yks.length cy] := rfl
  have f5' : ¬ b5 = b2 ∧ ¬ b2 = b5 := ⟨hb5.1, hb5.2.1⟩
  have e1 : ∀ M : Hp, findE (Nk ++ M) b2 = findE M b2 := fun M => findE_behind1 f2
  have e2 : ∀ (M : Hp) (cs : List Value), updE (Nk ++ M) b2 cs = Nk ++ updE M b2 cs := fun M cs => updE_behind f2
  have e3 : ∀ cs, dropM (Nk ++ ⟨b2, 0, .cel 29, cs⟩ :: M0) = Nk ++ ⟨b2, 0, .cel 29, cs⟩ :: M0 := fun cs => dropM_eq (by rw [marks_append, hmk]; simp [marksOf, hm])
  unfold stE
  simp only [push_cast, seval, reduceCtorEq, hyv]
  intro b6 hb6
  have f6r := (fresh_app_iff.1 hb6.2.2).2
  have h6 : ¬ b6 = b5 ∧ ¬ b5 = b6 ∧ ¬ b6 = b2 ∧ ¬ b2 = b6 := ⟨hb6.1, hb6.2.1, f6r.1, f6r.2.1⟩
  rcases hc with ⟨hc, he0⟩ | ⟨hc, rfl⟩
  · rw [hc] at hW
    dsimp only at hW
    have x1 : ((e' : Int) == 0) = false := by rw [beq_eq_false_iff_ne]; omega
    have x2 : ((e' : Int) != 0) = true := by rw [bne_iff_ne]; omega
    simp only [push_cast, seval, reduceCtorEq, h6, x1, x2]
    refine drawN gO11_ok Tryz.mix [(2, .pointer (some ⟨b2, 0, none⟩)), (5, .pointer (some ⟨b5, 0, none⟩))]
      (fun i => match i with
        | 0 => .agg #[.bool false, .string ByteArray.empty, .slice none 0 0]
        | 1 => .pointer (some ⟨b5, 0, none⟩)
        | 2 => .pointer (some ⟨b5, 0, none⟩)
        | 3 => .pointer (some ⟨b5, 3, none⟩)
        | 4 => .int .i64 (e' : Int)
        | 5 => .pointer (some ⟨b5, 0, none⟩)
        | 6 => .pointer (some ⟨b5, 0, none⟩)
        | 7 => .pointer (some ⟨b5, 1, none⟩)
        | 8 => .int .i64 (a' : Int)
        | 10 => .int .i64 (e' : Int)
        | 11 => .int .i64 (a' : Int)
        | _ => undef)
      (fun l => ⟨b6, 0, .cel 29, [.bool yl, .string (bs yb), .slice py yks.length cy]⟩ :: ⟨b5, 0, .cel 75, [.string (bs s), .int .i64 (a' : Int), .int .i64 (m' : Int), .int .i64 (e' : Int)]⟩ :: (Nk ++ ⟨b2, 0, .cel 29, [.bool false, .string ByteArray.empty, .slice none 0 0]⟩ :: M0))
      (by kernel_rfl) (by kernel_rfl) ⟨rfl, rfl, trivial⟩ (by kernel_rfl) rfl ?_ ?_
    · intro i o ho l T' hli hdep hcl hT
      have hi := (Array.getElem?_eq_some_iff.1 ho).1
      replace hi : i < 12 := hi
      have t2 : getT T' 2 = some (.pointer (some ⟨b2, 0, none⟩)) := hT.1
      have t5 : getT T' 5 = some (.pointer (some ⟨b5, 0, none⟩)) := hT.2.1
      obtain rfl | rfl | rfl | rfl | rfl | rfl | rfl | rfl | rfl | rfl | rfl | rfl : i = 0 ∨ i = 1 ∨ i = 2 ∨ i = 3 ∨ i = 4 ∨ i = 5 ∨ i = 6 ∨ i = 7 ∨ i = 8 ∨ i = 9 ∨ i = 10 ∨ i = 11 := by omega
      all_goals simp only [List.getElem?_toArray, List.getElem?_cons_zero, List.getElem?_cons_succ, Option.some.injEq] at ho; subst ho
      · simp only [push_cast, seval, reduceCtorEq]
      · simp only [push_cast, seval, reduceCtorEq, t5]
      · have g := (hdep 1 (by kernel_rfl)).2 44 rfl
        simp only [push_cast, seval, reduceCtorEq, g]
      · have g := (hdep 2 (by kernel_rfl)).2 45 rfl
        simp only [push_cast, seval, reduceCtorEq, g]
      · have g := (hdep 3 (by kernel_rfl)).2 46 rfl
        simp only [push_cast, seval, reduceCtorEq, g, h6]
      · simp only [push_cast, seval, reduceCtorEq, t5]
      · have g := (hdep 5 (by kernel_rfl)).2 48 rfl
        simp only [push_cast, seval, reduceCtorEq, g]
      · have g := (hdep 6 (by kernel_rfl)).2 49 rfl
        simp only [push_cast, seval, reduceCtorEq, g]
      · have g := (hdep 7 (by kernel_rfl)).2 50 rfl
        simp only [push_cast, seval, reduceCtorEq, g, h6]
      · have g := (hdep 0 (by kernel_rfl)).2 43 rfl
        simp only [push_cast, seval, reduceCtorEq, g, t2, h6, f5', e1, e2]
      · have g := (hdep 4 (by kernel_rfl)).2 47 rfl
        simp only [push_cast, seval, reduceCtorEq, g]
      · have g := (hdep 8 (by kernel_rfl)).2 51 rfl
        simp only [push_cast, seval, reduceCtorEq, g]
    intro l hl
    simp only [push_cast, seval, reduceCtorEq, dstsL, h6, f5', e1, e2, e3]
    refine ⟨[], List.nil_sublist _, trivial, rfl, fun _ => ⟨.mk false [] (.slice none 0 0) [], _, a', rfl, ?_, IvOk.text _ _ _ _⟩⟩
    rw [hW]
    simp only [Iv.it, Iv.its]
    rfl
  rw [hc] at hW
  dsimp only at hW
  by_cases hla : a' < s.length
  · rw [if_pos hla] at hW
    dsimp only at hW
    have x3 : (a' : Int) < (s.length : Int) := by omega
    simp only [push_cast, seval, reduceCtorEq, h6, hla, x3]
    have hrem2 : remE (⟨b6, 0, .cel 29, [.bool yl, .string (bs yb), .slice py yks.length cy]⟩ :: ⟨b5, 0, .cel 75, [.string (bs s), .int .i64 (a' : Int), .int .i64 (m' : Int), .int .i64 0]⟩ :: (Nk ++ ⟨b2, 0, .cel 29, [.bool false, .string ByteArray.empty, .slice none 0 0]⟩ :: M0)) (stE b5 s a' m' 0).blk = ⟨b6, 0, .cel 29, [.bool yl, .string (bs yb), .slice py yks.length cy]⟩ :: (Nk ++ ⟨b2, 0, .cel 29, [.bool false, .string ByteArray.empty, .slice none 0 0]⟩ :: M0) := by unfold stE; simp only [push_cast, seval, reduceCtorEq, h6]
    refine CallsV.useM (m := stE b5 s a' m' 0) (Hf := []) (reffail_ok 12 a') (by unfold stE; simp only [push_cast, seval, reduceCtorEq, h6]) rfl trivial ?_
    rw [hrem2]
    rintro v N ⟨rfl, rfl⟩
    refine ⟨⟨trivial, trivial⟩, rfl, fun hfr => ?_⟩
    clear hfr
    unfold stE
    simp only [push_cast, seval, reduceCtorEq, h6]
    refine drawN gO11_ok Tryz.mix [(2, .pointer (some ⟨b2, 0, none⟩)), (5, .pointer (some ⟨b5, 0, none⟩))]
      (fun i => match i with
        | 0 => .agg #[.bool false, .string ByteArray.empty, .slice none 0 0]
        | 1 => .pointer (some ⟨b5, 0, none⟩)
        | 2 => .pointer (some ⟨b5, 0, none⟩)
        | 3 => .pointer (some ⟨b5, 3, none⟩)
        | 4 => .int .i64 12
        | 5 => .pointer (some ⟨b5, 0, none⟩)
        | 6 => .pointer (some ⟨b5, 0, none⟩)
        | 7 => .pointer (some ⟨b5, 1, none⟩)
        | 8 => .int .i64 (a' : Int)
        | 10 => .int .i64 12
        | 11 => .int .i64 (a' : Int)
        | _ => undef)
      (fun l => ⟨b5, 0, .cel 75, [.string (bs s), .int .i64 (a' : Int), .int .i64 (m' : Int), .int .i64 12]⟩ :: ⟨b6, 0, .cel 29, [.bool yl, .string (bs yb), .slice py yks.length cy]⟩ :: (Nk ++ ⟨b2, 0, .cel 29, [.bool false, .string ByteArray.empty, .slice none 0 0]⟩ :: M0))
      (by kernel_rfl) (by kernel_rfl) ⟨rfl, rfl, trivial⟩ (by kernel_rfl) rfl ?_ ?_
    · intro i o ho l T' hli hdep hcl hT
      have hi := (Array.getElem?_eq_some_iff.1 ho).1
      replace hi : i < 12 := hi
      have t2 : getT T' 2 = some (.pointer (some ⟨b2, 0, none⟩)) := hT.1
      have t5 : getT T' 5 = some (.pointer (some ⟨b5, 0, none⟩)) := hT.2.1
      obtain rfl | rfl | rfl | rfl | rfl | rfl | rfl | rfl | rfl | rfl | rfl | rfl : i = 0 ∨ i = 1 ∨ i = 2 ∨ i = 3 ∨ i = 4 ∨ i = 5 ∨ i = 6 ∨ i = 7 ∨ i = 8 ∨ i = 9 ∨ i = 10 ∨ i = 11 := by omega
      all_goals simp only [List.getElem?_toArray, List.getElem?_cons_zero, List.getElem?_cons_succ, Option.some.injEq] at ho; subst ho
      · simp only [push_cast, seval, reduceCtorEq]
      · simp only [push_cast, seval, reduceCtorEq, t5]
      · have g := (hdep 1 (by kernel_rfl)).2 44 rfl
        simp only [push_cast, seval, reduceCtorEq, g]
      · have g := (hdep 2 (by kernel_rfl)).2 45 rfl
        simp only [push_cast, seval, reduceCtorEq, g]
      · have g := (hdep 3 (by kernel_rfl)).2 46 rfl
        simp only [push_cast, seval, reduceCtorEq, g, h6]
      · simp only [push_cast, seval, reduceCtorEq, t5]
      · have g := (hdep 5 (by kernel_rfl)).2 48 rfl
        simp only [push_cast, seval, reduceCtorEq, g]
      · have g := (hdep 6 (by kernel_rfl)).2 49 rfl
        simp only [push_cast, seval, reduceCtorEq, g]
      · have g := (hdep 7 (by kernel_rfl)).2 50 rfl
        simp only [push_cast, seval, reduceCtorEq, g, h6]
      · have g := (hdep 0 (by kernel_rfl)).2 43 rfl
        simp only [push_cast, seval, reduceCtorEq, g, t2, h6, f5', e1, e2]
      · have g := (hdep 4 (by kernel_rfl)).2 47 rfl
        simp only [push_cast, seval, reduceCtorEq, g]
      · have g := (hdep 8 (by kernel_rfl)).2 51 rfl
        simp only [push_cast, seval, reduceCtorEq, g]
    intro l hl
    simp only [push_cast, seval, reduceCtorEq, dstsL, h6, f5', e1, e2, e3]
    refine ⟨[], List.nil_sublist _, trivial, rfl, fun _ => ⟨.mk false [] (.slice none 0 0) [], _, a', rfl, ?_, IvOk.text _ _ _ _⟩⟩
    rw [hW]
    simp only [Iv.it, Iv.its]
    rfl
  · rw [if_neg hla] at hW
    dsimp only at hW
    have x3 : ¬ (a' : Int) < (s.length : Int) := by omega
    simp only [push_cast, seval, reduceCtorEq, h6, hla, x3, f5', e1, e2, e3]
    exact ⟨Nk, ((List.sublist_append_left _ _).cons _).cons _, hwk, hmk, fun hf => ⟨_, 0, 0, rfl, hW, hyk.ext (Ext.app hmk hm)⟩⟩
end Go.Proofs.YtolmipnaheifcaaGreatDoor
set_option linter.unusedSimpArgs false
set_option linter.unusedVariables false
namespace Go.Ev
mutual
def smI : It → Bool
  | .mk _ b ks => decide (b.length ≤ 70) && smIs ks
def smIs : List It → Bool
  | [] => true
  | k :: r => smI k && smIs r
end
mutual
theorem okD_mono : ∀ (x : It) (d e : Nat), d ≤ e → okD x d = true → okD x e = true
  | .mk l b ks, d, e, h, ho => by
    cases d with
    | zero => rw [okD] at ho; cases ho
    | succ d =>
      obtain ⟨e', rfl⟩ : ∃ e', e = e' + 1 := ⟨e - 1, by omega⟩
      rw [okD, Bool.and_eq_true] at ho ⊢
      exact ⟨ho.1, okDs_mono ks d e' (by omega) ho.2⟩
theorem okDs_mono : ∀ (ks : List It) (d e : Nat), d ≤ e → okDs ks d = true → okDs ks e = true
  | [], d, e, h, _ => by rw [okDs]
  | k :: r, d, e, h, ho => by
    rw [okDs, Bool.and_eq_true] at ho ⊢
    exact ⟨okD_mono k d e h ho.1, okDs_mono r d e h ho.2⟩
end
theorem headL_le9 (k : Nat) {n : Nat} (h : n < 18446744073709551616) : (headL k n).length ≤ 9 := by
  rw [headL_len]
  split
  · omega
  · have := lenL_len h; omega
theorem textL_le {b : List UInt8} (h : b.length ≤ 70) : (textL b).length ≤ 79 := by
  by_cases h1 : b.length = 1 ∧ (b.headD 0).toNat < 128
  · obtain ⟨c, rfl⟩ := List.length_eq_one_iff.1 h1.1
    rw [textL_one (show c.toNat < 128 from h1.2)]; exact Nat.le_trans (Nat.le_refl 1) (by decide)
  · rw [textL_as h1, List.length_append]
    have := headL_le9 128 (n := b.length) (by omega)
    omega
mutual
theorem encL_sm : ∀ (x : It), smI x = true → cntI x ≤ 1000000000 → (encL x).length ≤ 80 * cntI x
  | .mk l b ks, h, hc => by
    rw [smI, Bool.and_eq_true, decide_eq_true_eq] at h
    rw [cntI] at hc ⊢
    cases l with
    | true =>
      have := encLs_sm ks h.2 (by omega)
      rw [encL, List.length_append]
      have := headL_le9 192 (n := (encLs ks).length) (by omega)
      omega
    | false =>
      rw [encL]
      have := textL_le h.1
      omega
theorem encLs_sm : ∀ (ks : List It), smIs ks = true → cntIs ks ≤ 1000000000 → (encLs ks).length ≤ 80 * cntIs ks
  | [], _, _ => by rw [encLs]; exact Nat.zero_le _
  | k :: r, h, hc => by
    rw [smIs, Bool.and_eq_true] at h
    rw [cntIs] at hc ⊢
    rw [encLs, List.length_append]
    have := encL_sm k h.1 (by omega)
    have := encLs_sm r h.2 (by omega)
    omega
end
theorem pow2_mono {a b : Nat} (h : a ≤ b) : 2 ^ a ≤ 2 ^ b := Nat.pow_le_pow_right (by decide) h
def GoodR (d n : Nat) (ks : List It) : Prop := okDs ks d = true ∧ cntIs ks + 1 ≤ 2 ^ n ∧ smIs ks = true
theorem GoodR.leaf {d n : Nat} {ks : List It} (l : Bool) (b : List UInt8) (hl : l = false ∨ b = []) (hb : b.length ≤ 70) (h : GoodR (d + 1) n ks) : GoodR (d + 1) (n + 1) (.mk l b [] :: ks) := by
  obtain ⟨h1, h2, h3⟩ := h
  have hp : 0 < 2 ^ n := Nat.two_pow_pos n
  refine ⟨?_, ?_, ?_⟩
  · rw [okDs, h1, okD, okDs, Bool.and_true, Bool.and_true]
    rcases hl with rfl | rfl <;> simp
  · rw [cntIs, cntI, cntIs, Nat.pow_succ]; omega
  · rw [smIs, h3, smI, smIs, decide_eq_true hb]; rfl
theorem goB_good {d : Nat} {sub : List (Int × Int) → Option It} (hs : ∀ r y, sub r = some y → okD y (d + 1) = true ∧ cntI y ≤ 2 ^ r.length ∧ smI y = true) : ∀ (f : Nat) (r : List (Int × Int)), GoodR (d + 1) r.length (goB sub f r)
  | 0, r => ⟨by rw [goB, okDs], by rw [goB, cntIs]; exact Nat.two_pow_pos _, by rw [goB, smIs]⟩
  | f + 1, [] => ⟨by rw [goB, okDs], by rw [goB, cntIs]; exact Nat.two_pow_pos _, by rw [goB, smIs]⟩
  | f + 1, x :: r => by
    have ih := goB_good hs f r
    have hnum := numL_len (W.ofInt x.2)
    have h70 := pickN_lt x.2 (show (0 : Int) < 70 by decide)
    rw [goB, List.length_cons]
    split
    · exact ih.leaf false _ (.inl rfl) (by omega)
    split
    · exact ih.leaf false _ (.inl rfl) (by rw [List.length_replicate]; omega)
    split
    · exact ih.leaf false _ (.inl rfl) (by show 1 ≤ 70; decide)
    split
    · split
      · rename_i y hy
        obtain ⟨y1, y2, y3⟩ := hs r y hy
        obtain ⟨k1, k2, k3⟩ := goB_good hs f (r.drop (pickN x.2 4))
        have hl : (r.drop (pickN x.2 4)).length ≤ r.length := by rw [List.length_drop]; omega
        have := pow2_mono hl
        refine ⟨by rw [okDs, y1, k1]; rfl, by rw [cntIs, Nat.pow_succ]; omega, by rw [smIs, y3, k3]; rfl⟩
      · obtain ⟨k1, k2, k3⟩ := ih
        have := pow2_mono (Nat.le_succ r.length)
        exact ⟨k1, by omega, k3⟩
    split
    · exact ih.leaf true _ (.inr rfl) (Nat.zero_le _)
    · exact ih.leaf false _ (.inl rfl) (by show 4 ≤ 70; decide)
theorem itemB_good : ∀ (d : Nat) (raw : List (Int × Int)), okD (itemB d raw) (d + 2) = true ∧ cntI (itemB d raw) ≤ 2 ^ raw.length ∧ cntI (itemB d raw) ≤ 512 ∧ smI (itemB d raw) = true
  | d, raw => by
    have hs : ∀ r y, rawSub d r = some y → okD y (d + 1) = true ∧ cntI y ≤ 2 ^ r.length ∧ smI y = true := by
      intro r y hy
      cases d with
      | zero => cases hy
      | succ d =>
        replace hy : some (itemB d r) = some y := hy
        injection hy with hy
        subst hy
        obtain ⟨h1, h2, -, h4⟩ := itemB_good d r
        exact ⟨h1, h2, h4⟩
    obtain ⟨g1, g2, g3⟩ := goB_good hs 9 (raw.take 9)
    have hl : (raw.take 9).length ≤ raw.length := by rw [List.length_take]; omega
    have hl9 : (raw.take 9).length ≤ 9 := by rw [List.length_take]; omega
    have p1 := pow2_mono hl
    have p2 := pow2_mono hl9
    rw [itemB_eq]
    refine ⟨?_, ?_, ?_, ?_⟩
    · rw [okD, g1]; rfl
    · rw [cntI]; omega
    · rw [cntI]; omega
    · rw [smI, g3]; rfl
theorem rightI_of {x : It} {d : Nat} (hd : d ≤ 16) (h1 : okD x d = true) (h2 : cntI x ≤ 5000) : rightI x = true := by
  rw [rightI_eq, okD_mono x d 16 hd h1, decide_eq_true h2]; rfl
theorem itemB_right {d : Nat} (hd : d ≤ 10) (raw : List (Int × Int)) : rightI (itemB d raw) = true := by
  obtain ⟨h1, -, h3, -⟩ := itemB_good d raw
  exact rightI_of (d := d + 2) (by omega) h1 (by omega)
theorem itemB_len (d : Nat) (raw : List (Int × Int)) : (encL (itemB d raw)).length ≤ 40960 := by
  obtain ⟨-, -, h3, h4⟩ := itemB_good d raw
  have := encL_sm _ h4 (by omega)
  omega
theorem encD_ok {x : It} (hr : rightI x = true) (hl : (encL x).length ≤ 1048576) : encD x = (encL x, 0) := by
  unfold encD
  rw [if_pos hr, if_pos hl]
end Go.Ev
