/- Texts of this claim, merged by program: On Ot. -/
import Derived.Test.YtolmipnaheifcaaDoorZeAl
set_option linter.unusedSimpArgs false
set_option linter.unusedVariables false
namespace Go.Ev
mutual
def smI : It → Bool
  | .mk _ b ks => decide (b.length ≤ 70) && smIs ks
def smIs : List It → Bool
  | [] => true
  | k :: r => smI k && smIs r
end
mutual
theorem okD_mono : ∀ (x : It) (d e : Nat), d ≤ e → okD x d = true → okD x e = true
  | .mk l b ks, d, e, h, ho => by
    cases d with
    | zero => rw [okD] at ho; cases ho
    | succ d =>
      obtain ⟨e', rfl⟩ : ∃ e', e = e' + 1 := ⟨e - 1, by omega⟩
      rw [okD, Bool.and_eq_true] at ho ⊢
      exact ⟨ho.1, okDs_mono ks d e' (by omega) ho.2⟩
theorem okDs_mono : ∀ (ks : List It) (d e : Nat), d ≤ e → okDs ks d = true → okDs ks e = true
  | [], d, e, h, _ => by rw [okDs]
  | k :: r, d, e, h, ho => by
    rw [okDs, Bool.and_eq_true] at ho ⊢
    exact ⟨okD_mono k d e h ho.1, okDs_mono r d e h ho.2⟩
end
theorem headL_le9 (k : Nat) {n : Nat} (h : n < 18446744073709551616) : (headL k n).length ≤ 9 := by
  rw [headL_len]
  split
  · omega
  · have := lenL_len h; omega
theorem textL_le {b : List UInt8} (h : b.length ≤ 70) : (textL b).length ≤ 79 := by
  by_cases h1 : b.length = 1 ∧ (b.headD 0).toNat < 128
  · obtain ⟨c, rfl⟩ := List.length_eq_one_iff.1 h1.1
    rw [textL_one (show c.toNat < 128 from h1.2)]; exact Nat.le_trans (Nat.le_refl 1) (by decide)
  · rw [textL_as h1, List.length_append]
    have := headL_le9 128 (n := b.length) (by omega)
    omega
mutual
theorem encL_sm : ∀ (x : It), smI x = true → cntI x ≤ 1000000000 → (encL x).length ≤ 80 * cntI x
  | .mk l b ks, h, hc => by
    rw [smI, Bool.and_eq_true, decide_eq_true_eq] at h
    rw [cntI] at hc ⊢
    cases l with
    | true =>
      have := encLs_sm ks h.2 (by omega)
      rw [encL, List.length_append]
      have := headL_le9 192 (n := (encLs ks).length) (by omega)
      omega
    | false =>
      rw [encL]
      have := textL_le h.1
      omega
theorem encLs_sm : ∀ (ks : List It), smIs ks = true → cntIs ks ≤ 1000000000 → (encLs ks).length ≤ 80 * cntIs ks
  | [], _, _ => by rw [encLs]; exact Nat.zero_le _
  | k :: r, h, hc => by
    rw [smIs, Bool.and_eq_true] at h
    rw [cntIs] at hc ⊢
    rw [encLs, List.length_append]
    have := encL_sm k h.1 (by omega)
    have := encLs_sm r h.2 (by omega)
    omega
end
theorem pow2_mono {a b : Nat} (h : a ≤ b) : 2 ^ a ≤ 2 ^ b := Nat.pow_le_pow_right (by decide) h
def GoodR (d n : Nat) (ks : List It) : Prop := okDs ks d = true ∧ cntIs ks + 1 ≤ 2 ^ n ∧ smIs ks = true
theorem GoodR.leaf {d n : Nat} {ks : List It} (l : Bool) (b : List UInt8) (hl : l = false ∨ b = []) (hb : b.length ≤ 70) (h : GoodR (d + 1) n ks) : GoodR (d + 1) (n + 1) (.mk l b [] :: ks) := by
  obtain ⟨h1, h2, h3⟩ := h
  have hp : 0 < 2 ^ n := Nat.two_pow_pos n
  refine ⟨?_, ?_, ?_⟩
  · rw [okDs, h1, okD, okDs, Bool.and_true, Bool.and_true]
    rcases hl with rfl | rfl <;> simp
  · rw [cntIs, cntI, cntIs, Nat.pow_succ]; omega
  · rw [smIs, h3, smI, smIs, decide_eq_true hb]; rfl
theorem goB_good {d : Nat} {sub : List (Int × Int) → Option It} (hs : ∀ r y, sub r = some y → okD y (d + 1) = true ∧ cntI y ≤ 2 ^ r.length ∧ smI y = true) : ∀ (f : Nat) (r : List (Int × Int)), GoodR (d + 1) r.length (goB sub f r)
  | 0, r => ⟨by rw [goB, okDs], by rw [goB, cntIs]; exact Nat.two_pow_pos _, by rw [goB, smIs]⟩
  | f + 1, [] => ⟨by rw [goB, okDs], by rw [goB, cntIs]; exact Nat.two_pow_pos _, by rw [goB, smIs]⟩
  | f + 1, x :: r => by
    have ih := goB_good hs f r
    have hnum := numL_len (W.ofInt x.2)
    have h70 := pickN_lt x.2 (show (0 : Int) < 70 by decide)
    rw [goB, List.length_cons]
    split
    · exact ih.leaf false _ (.inl rfl) (by omega)
    split
    · exact ih.leaf false _ (.inl rfl) (by rw [List.length_replicate]; omega)
    split
    · exact ih.leaf false _ (.inl rfl) (by show 1 ≤ 70; decide)
    split
    · split
      · rename_i y hy
        obtain ⟨y1, y2, y3⟩ := hs r y hy
        obtain ⟨k1, k2, k3⟩ := goB_good hs f (r.drop (pickN x.2 4))
        have hl : (r.drop (pickN x.2 4)).length ≤ r.length := by rw [List.length_drop]; omega
        have := pow2_mono hl
        refine ⟨by rw [okDs, y1, k1]; rfl, by rw [cntIs, Nat.pow_succ]; omega, by rw [smIs, y3, k3]; rfl⟩
      · obtain ⟨k1, k2, k3⟩ := ih
        have := pow2_mono (Nat.le_succ r.length)
        exact ⟨k1, by omega, k3⟩
    split
    · exact ih.leaf true _ (.inr rfl) (Nat.zero_le _)
    · exact ih.leaf false _ (.inl rfl) (by show 4 ≤ 70; decide)
theorem itemB_good : ∀ (d : Nat) (raw : List (Int × Int)), okD (itemB d raw) (d + 2) = true ∧ cntI (itemB d raw) ≤ 2 ^ raw.length ∧ cntI (itemB d raw) ≤ 512 ∧ smI (itemB d raw) = true
  | d, raw => by
    have hs : ∀ r y, rawSub d r = some y → okD y (d + 1) = true ∧ cntI y ≤ 2 ^ r.length ∧ smI y = true := by
      intro r y hy
      cases d with
      | zero => cases hy
      | succ d =>
        replace hy : some (itemB d r) = some y := hy
        injection hy with hy
        subst hy
        obtain ⟨h1, h2, -, h4⟩ := itemB_good d r
        exact ⟨h1, h2, h4⟩
    obtain ⟨g1, g2, g3⟩ := goB_good hs 9 (raw.take 9)
    have hl : (raw.take 9).length ≤ raw.length := by rw [List.length_take]; omega
    have hl9 : (raw.take 9).length ≤ 9 := by rw [List.length_take]; omega
    have p1 := pow2_mono hl
    have p2 := pow2_mono hl9
    rw [itemB_eq]
    refine ⟨?_, ?_, ?_, ?_⟩
    · rw [okD, g1]; rfl
    · rw [cntI]; omega
    · rw [cntI]; omega
    · rw [smI, g3]; rfl
theorem rightI_of {x : It} {d : Nat} (hd : d ≤ 16) (h1 : okD x d = true) (h2 : cntI x ≤ 5000) : rightI x = true := by
  rw [rightI_eq, okD_mono x d 16 hd h1, decide_eq_true h2]; rfl
theorem itemB_right {d : Nat} (hd : d ≤ 10) (raw : List (Int × Int)) : rightI (itemB d raw) = true := by
  obtain ⟨h1, -, h3, -⟩ := itemB_good d raw
  exact rightI_of (d := d + 2) (by omega) h1 (by omega)
theorem itemB_len (d : Nat) (raw : List (Int × Int)) : (encL (itemB d raw)).length ≤ 40960 := by
  obtain ⟨-, -, h3, h4⟩ := itemB_good d raw
  have := encL_sm _ h4 (by omega)
  omega
theorem encD_ok {x : It} (hr : rightI x = true) (hl : (encL x).length ≤ 1048576) : encD x = (encL x, 0) := by
  unfold encD
  rw [if_pos hr, if_pos hl]
end Go.Ev
set_option linter.unusedSimpArgs false
set_option linter.unusedVariables false
namespace Go.Ev
theorem decD_cases {Z : List UInt8} {x : It} {e p : Nat} (h : Z.length ≤ 1048576) (hd : decD Z = (x, e, p)) : (e ≠ 0 ∧ p ≤ Z.length) ∨ (e = 0 ∧ p = 0 ∧ rightI x = true ∧ encL x = Z) := by
  unfold decD at hd
  rw [if_neg (by omega)] at hd
  split at hd
  · rename_i hw
    have := wholeD_bad hw
    cases hd
    exact .inl ⟨this.2, this.1⟩
  · rename_i hw
    have := wholeD_ok hw
    cases hd
    exact .inr ⟨rfl, rfl, this.1, this.2⟩
end Go.Ev
namespace Go.Proofs.YtolmipnaheifcaaDoor
open Go Go.Ev Go.Proofs
set_option maxRecDepth 100000
set_option maxHeartbeats 4000000
theorem rlpOne_ok {M : Hp} {s0 : ByteArray} {raw : List (Int × Int)} {v : Value} {at_ : Int} {more : ByteArray} (hk : ErrR M) (hm : marksOf M = []) (hs0 : s0.size < 140737488355328) (hv : LiR prI 2 M raw v) (hcap : CapOk v) (hin : ∀ x ∈ raw, i64In x.1 ∧ i64In x.2) (hlen : raw.length ≤ 9223372036854775807) (hat : i64In at_) (hmo : more.size < 140737488355328) :
    CallsV Tryd.prog 3 [.string s0, v, .int .i64 at_, .string more] M (Ret0 (.bool true)) := by
  obtain ⟨X, rfl⟩ := bs_of s0
  obtain ⟨s, rfl⟩ := bs_of more
  rw [bs_size] at hmo hs0
  obtain ⟨E, hE⟩ : ∃ E, E = encL (itemB 3 raw) := ⟨_, rfl⟩
  have hr3 := itemB_right (d := 3) (by decide) raw
  have hEl : E.length ≤ 40960 := by rw [hE]; exact itemB_len 3 raw
  have henc : encD (itemB 3 raw) = (E, 0) := by rw [encD_ok hr3 (by rw [← hE]; omega), hE]
  obtain ⟨Y, hYl, hXY⟩ : ∃ Y : List UInt8, Y.length ≤ 400 ∧ (400 < X.length ∧ X.take 400 = Y ∨ X.length ≤ 400 ∧ Y = X) := by
    rcases Nat.lt_or_ge 400 X.length with h | h
    · exact ⟨X.take 400, by rw [List.length_take]; omega, .inl ⟨h, rfl⟩⟩
    · exact ⟨X, h, .inr ⟨h, rfl⟩⟩
  obtain ⟨k, hk'⟩ : ∃ k, k = pickN at_ ((E.length : Int) + 1) := ⟨_, rfl⟩
  have hkl := pickN_lt at_ (show (0 : Int) < (E.length : Int) + 1 by omega)
  rw [← hk'] at hkl
  have hkl2 : k ≤ E.length := by omega
  have e0 : ((E.length : Int) + 1 == 0) = false := by rw [beq_eq_false_iff_ne]; omega
  have e1 := i64B_in hat
  have e2 : i64B ((E.length : Int) + 1) = true := i64B_in ⟨by omega, by omega⟩
  have e3 : posB ((E.length : Int) + 1) = true := posB_in (by omega)
  obtain ⟨q, hq⟩ : ∃ q, q = min s.length 9 := ⟨_, rfl⟩
  have hqI : (if 9 < (s.length : Int) then 9 else (s.length : Int)) = (q : Int) := by split <;> omega
  have q1 : q ≤ s.length := by omega
  have q1' : (q : Int) ≤ (s.length : Int) := by omega
  have k1 : (k : Int) ≤ (E.length : Int) := by omega
  have tl : (List.take q s).length = q := by rw [List.length_take]; omega
  obtain ⟨u, hu⟩ : ∃ u, u = min (k + q) E.length := ⟨_, rfl⟩
  have huI : (if (E.length : Int) < (k : Int) + (q : Int) then (E.length : Int) else (k : Int) + (q : Int)) = (u : Int) := by split <;> omega
  have u1 : u ≤ E.length := by omega
  have u1' : (u : Int) ≤ (E.length : Int) := by omega
  obtain ⟨A, hA⟩ : ∃ A, A = List.take k E ++ List.take q s := ⟨_, rfl⟩
  have hAl : A.length ≤ 40969 := by rw [hA, List.length_append, List.length_take, tl]; omega
  have cat1 : catB (bs (List.take k E)) (bs (List.take q s)) = some (.string (bs A)) := by rw [hA]; exact ncatB _ _ (by rw [List.length_take, tl]; omega)
  obtain ⟨Y2, hY2⟩ : ∃ Y2, Y2 = A ++ List.take (E.length - k) (List.drop k E) := ⟨_, rfl⟩
  have hY2l : Y2.length ≤ 90000 := by rw [hY2, List.length_append, List.length_take]; omega
  have cat2 : catB (bs A) (bs (List.take (E.length - k) (List.drop k E))) = some (.string (bs Y2)) := by rw [hY2]; exact ncatB _ _ (by rw [List.length_take]; omega)
  obtain ⟨Y3, hY3⟩ : ∃ Y3, Y3 = A ++ List.take (E.length - u) (List.drop u E) := ⟨_, rfl⟩
  have hY3l : Y3.length ≤ 90000 := by rw [hY3, List.length_append, List.length_take]; omega
  have cat3 : catB (bs A) (bs (List.take (E.length - u) (List.drop u E))) = some (.string (bs Y3)) := by rw [hY3]; exact ncatB _ _ (by rw [List.length_take]; omega)
  refine callsO gO8_ok Tryd.mix Tryd.pl3 Tryd.func3 rfl Tryd.ntmps3 Tryd.results3 rfl (by first | rfl | assumption) (Nat.le_of_ble_eq_true rfl) (by kernel_rfl) ?_
  simp only [push_cast, seval, reduceCtorEq]
  refine useP [] (M := M) (awk06_P hk) trivial ?_
  rcases hXY with ⟨hX, hXY⟩ | ⟨hX, hXY⟩
  · have x1 : (400 : Int) < (X.length : Int) := by omega
    have x2 : (400 : Int) ≤ (X.length : Int) := by omega
    have x3 : 400 ≤ X.length := by omega
    simp only [push_cast, seval, reduceCtorEq, x1, x2, x3, hXY]
    refine useL [] (item6_ok 3 (by decide) raw v M hv hcap hin hlen) (ItemQ.rd 3 raw) hm trivial fun w M1 hg1 _ hq1 => ?_
    obtain ⟨y, rfl, hy1, hy2⟩ := hq1
    have hm1 := hg1.marks
    have hk1 := hk.ext hg1.ext
    obtain ⟨yl, yb, yp, yn, yc, hyv⟩ := hy2.opn
    simp only [push_cast, seval, reduceCtorEq]
    refine useP [] (M := M1) (refenc_R hy2 (by rw [hy1, ← hE]; omega)) trivial ?_
    rw [hy1, henc]
    simp only [push_cast, seval, reduceCtorEq, e0, e1, e2, e3, wrap_i64' (show -9223372036854775808 ≤ (E.length : Int) + 1 ∧ (E.length : Int) + 1 ≤ 9223372036854775807 by omega), ← hk', k1, hkl2, hqI, q1, q1', tl, wrap_i64' (show -9223372036854775808 ≤ (k : Int) + (q : Int) ∧ (k : Int) + (q : Int) ≤ 9223372036854775807 by omega), huI, u1, u1', cat1, cat2, cat3]
    intro b hb
    refine ⟨subH_skip6 hb (subH_self _), ?_⟩
    refine loopO gO8_ok (pl := Tryd.pl3) Tryd.mix (X := {x : Nat × Hp // ErrR x.2 ∧ marksOf x.2 = [] ∧ fresh b x.2})
      (fun x => ([(9, .bool true), (70, .slice (some ⟨b, 0, none⟩) 3 3), (71, .int .i64 3), (72, .int .i64 (x.1.1 : Int))], ⟨b, 0, .vec 9 1 3, [.string (bs Y), .string (bs Y2), .string (bs Y3)]⟩ :: x.1.2))
      (fun x => x.1.1 ≤ 3) (fun x => 3 - x.1.1) ⟨(0, M1), hk1, hm1, hb⟩ ?_ ?_ (by kernel_rfl) ?_
    · exact Nat.zero_le _
    · simp only [push_cast, seval, reduceCtorEq, subH_self]
    · rintro ⟨⟨i, M2⟩, hk2, hm2, f2⟩ hi
      dsimp only at hk2 hm2 f2 hi ⊢
      rcases Nat.lt_or_ge i 3 with hlt | hge
      · have i1 : (i : Int) < 3 := by omega
        obtain ⟨Z, hZl, hZ⟩ : ∃ Z : List UInt8, Z.length ≤ 90000 ∧ List.take 1 (List.drop i [Value.string (bs Y), .string (bs Y2), .string (bs Y3)]) = [.string (bs Z)] := by
          obtain rfl | rfl | rfl : i = 0 ∨ i = 1 ∨ i = 2 := by omega
          · exact ⟨Y, by omega, rfl⟩
          · exact ⟨Y2, hY2l, rfl⟩
          · exact ⟨Y3, hY3l, rfl⟩
        have i2 : i ≤ 2 := by omega
        simp only [push_cast, seval, reduceCtorEq, i1, hlt, i2, hZ]
        refine useL [_] (decode_ok hk2 Z (by omega)) (DecQ.rd _) hm2 ⟨f2, trivial⟩ fun v M3 hg3 hL3 hq3 => ?_
        obtain ⟨y, e, n, rfl, hd, hy⟩ := hq3
        have hm3 := hg3.marks
        have hk3 := hk2.ext hg3.ext
        have f3 : fresh b M3 := hL3.1
        obtain ⟨yl, yb, yp, yn, yc, hyv⟩ := hy.opn
        rcases decD_cases (by omega) hd with ⟨he, hn⟩ | ⟨rfl, rfl, hri, hen⟩
        · have e4 : ((e : Int) != 0) = true := by rw [bne_iff_ne]; omega
          have n1 : ¬ (n : Int) < 0 := by omega
          have n2 : ¬ Z.length < n := by omega
          simp only [push_cast, seval, reduceCtorEq, hyv]
          intro b17 hb17
          have b17n : ¬ b = b17 := fun h => hb17.1 h.symm
          simp only [push_cast, seval, reduceCtorEq, e4, n1, n2, hb17, b17n, wrap_i64' (show -9223372036854775808 ≤ (i : Int) + 1 ∧ (i : Int) + 1 ≤ 9223372036854775807 by omega)]
          exact ⟨⟨(i + 1, M3), hk3, hm3, f3⟩, hlt, by dsimp only; omega, rfl, subH_skip6 hb17.2.2 (subH_self _), rfl⟩
        · simp only [push_cast, seval, reduceCtorEq, hyv]
          intro b17 hb17
          have f17 : fresh b17 M3 := hb17.2.2
          have henD : encD y.it = (Z, 0) := by rw [encD_ok hri (by rw [hen]; omega), hen]
          try simp only [push_cast, seval, reduceCtorEq, hb17]
          refine useP [_, _] (M := M3) (v := .tuple #[.string (bs Z), .int .i64 0]) (fun M0 hr he => by have := renc_R hy (by rw [hen]; omega) M0 hr he; rw [hyv, henD] at this; exact this) ⟨f17, f3, trivial⟩ ?_
          simp only [push_cast, seval, reduceCtorEq, hb17]
          refine useP [_, _] (M := M3) (v := .bool true) (fun M0 hr he => by have := rright_R hy M0 hr he; rw [hri, hyv] at this; exact this) ⟨f17, f3, trivial⟩ ?_
          simp only [push_cast, seval, reduceCtorEq, hb17, wrap_i64' (show -9223372036854775808 ≤ (i : Int) + 1 ∧ (i : Int) + 1 ≤ 9223372036854775807 by omega)]
          exact ⟨⟨(i + 1, M3), hk3, hm3, f3⟩, hlt, by dsimp only; omega, rfl, subH_skip6 hb17.2.2 (subH_self _), rfl⟩
      · obtain rfl : i = 3 := by omega
        simp only [push_cast, seval, reduceCtorEq, Int.lt_irrefl]
  · subst hXY
    have x1 : ¬ (400 : Int) < (Y.length : Int) := by omega
    simp only [push_cast, seval, reduceCtorEq, x1]
    refine useL [] (item6_ok 3 (by decide) raw v M hv hcap hin hlen) (ItemQ.rd 3 raw) hm trivial fun w M1 hg1 _ hq1 => ?_
    obtain ⟨y, rfl, hy1, hy2⟩ := hq1
    have hm1 := hg1.marks
    have hk1 := hk.ext hg1.ext
    obtain ⟨yl, yb, yp, yn, yc, hyv⟩ := hy2.opn
    simp only [push_cast, seval, reduceCtorEq]
    refine useP [] (M := M1) (refenc_R hy2 (by rw [hy1, ← hE]; omega)) trivial ?_
    rw [hy1, henc]
    simp only [push_cast, seval, reduceCtorEq, e0, e1, e2, e3, wrap_i64' (show -9223372036854775808 ≤ (E.length : Int) + 1 ∧ (E.length : Int) + 1 ≤ 9223372036854775807 by omega), ← hk', k1, hkl2, hqI, q1, q1', tl, wrap_i64' (show -9223372036854775808 ≤ (k : Int) + (q : Int) ∧ (k : Int) + (q : Int) ≤ 9223372036854775807 by omega), huI, u1, u1', cat1, cat2, cat3]
    intro b hb
    refine ⟨subH_skip6 hb (subH_self _), ?_⟩
    refine loopO gO8_ok (pl := Tryd.pl3) Tryd.mix (X := {x : Nat × Hp // ErrR x.2 ∧ marksOf x.2 = [] ∧ fresh b x.2})
      (fun x => ([(9, .bool true), (70, .slice (some ⟨b, 0, none⟩) 3 3), (71, .int .i64 3), (72, .int .i64 (x.1.1 : Int))], ⟨b, 0, .vec 9 1 3, [.string (bs Y), .string (bs Y2), .string (bs Y3)]⟩ :: x.1.2))
      (fun x => x.1.1 ≤ 3) (fun x => 3 - x.1.1) ⟨(0, M1), hk1, hm1, hb⟩ ?_ ?_ (by kernel_rfl) ?_
    · exact Nat.zero_le _
    · simp only [push_cast, seval, reduceCtorEq, subH_self]
    · rintro ⟨⟨i, M2⟩, hk2, hm2, f2⟩ hi
      dsimp only at hk2 hm2 f2 hi ⊢
      rcases Nat.lt_or_ge i 3 with hlt | hge
      · have i1 : (i : Int) < 3 := by omega
        obtain ⟨Z, hZl, hZ⟩ : ∃ Z : List UInt8, Z.length ≤ 90000 ∧ List.take 1 (List.drop i [Value.string (bs Y), .string (bs Y2), .string (bs Y3)]) = [.string (bs Z)] := by
          obtain rfl | rfl | rfl : i = 0 ∨ i = 1 ∨ i = 2 := by omega
          · exact ⟨Y, by omega, rfl⟩
          · exact ⟨Y2, hY2l, rfl⟩
          · exact ⟨Y3, hY3l, rfl⟩
        have i2 : i ≤ 2 := by omega
        simp only [push_cast, seval, reduceCtorEq, i1, hlt, i2, hZ]
        refine useL [_] (decode_ok hk2 Z (by omega)) (DecQ.rd _) hm2 ⟨f2, trivial⟩ fun v M3 hg3 hL3 hq3 => ?_
        obtain ⟨y, e, n, rfl, hd, hy⟩ := hq3
        have hm3 := hg3.marks
        have hk3 := hk2.ext hg3.ext
        have f3 : fresh b M3 := hL3.1
        obtain ⟨yl, yb, yp, yn, yc, hyv⟩ := hy.opn
        rcases decD_cases (by omega) hd with ⟨he, hn⟩ | ⟨rfl, rfl, hri, hen⟩
        · have e4 : ((e : Int) != 0) = true := by rw [bne_iff_ne]; omega
          have n1 : ¬ (n : Int) < 0 := by omega
          have n2 : ¬ Z.length < n := by omega
          simp only [push_cast, seval, reduceCtorEq, hyv]
          intro b17 hb17
          have b17n : ¬ b = b17 := fun h => hb17.1 h.symm
          simp only [push_cast, seval, reduceCtorEq, e4, n1, n2, hb17, b17n, wrap_i64' (show -9223372036854775808 ≤ (i : Int) + 1 ∧ (i : Int) + 1 ≤ 9223372036854775807 by omega)]
          exact ⟨⟨(i + 1, M3), hk3, hm3, f3⟩, hlt, by dsimp only; omega, rfl, subH_skip6 hb17.2.2 (subH_self _), rfl⟩
        · simp only [push_cast, seval, reduceCtorEq, hyv]
          intro b17 hb17
          have f17 : fresh b17 M3 := hb17.2.2
          have henD : encD y.it = (Z, 0) := by rw [encD_ok hri (by rw [hen]; omega), hen]
          try simp only [push_cast, seval, reduceCtorEq, hb17]
          refine useP [_, _] (M := M3) (v := .tuple #[.string (bs Z), .int .i64 0]) (fun M0 hr he => by have := renc_R hy (by rw [hen]; omega) M0 hr he; rw [hyv, henD] at this; exact this) ⟨f17, f3, trivial⟩ ?_
          simp only [push_cast, seval, reduceCtorEq, hb17]
          refine useP [_, _] (M := M3) (v := .bool true) (fun M0 hr he => by have := rright_R hy M0 hr he; rw [hri, hyv] at this; exact this) ⟨f17, f3, trivial⟩ ?_
          simp only [push_cast, seval, reduceCtorEq, hb17, wrap_i64' (show -9223372036854775808 ≤ (i : Int) + 1 ∧ (i : Int) + 1 ≤ 9223372036854775807 by omega)]
          exact ⟨⟨(i + 1, M3), hk3, hm3, f3⟩, hlt, by dsimp only; omega, rfl, subH_skip6 hb17.2.2 (subH_self _), rfl⟩
      · obtain rfl : i = 3 := by omega
        simp only [push_cast, seval, reduceCtorEq, Int.lt_irrefl]
end Go.Proofs.YtolmipnaheifcaaDoor
