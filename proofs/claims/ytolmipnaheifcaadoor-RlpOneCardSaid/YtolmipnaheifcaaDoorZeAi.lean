/- Texts of this claim, merged by program: Ob Sd Se Sh Sj Sk Sl Oe. -/
import Derived.Test.YtolmipnaheifcaaDoorZeAh
import Derived.Test.YtolmipnaheifcaaDoorZeAg
import Derived.Test.YtolmipnaheifcaaDoorZeAf
set_option linter.unusedSimpArgs false
set_option linter.unusedVariables false
namespace Go.Ev
set_option maxRecDepth 20000
mutual
def cntI : It → Nat
  | .mk _ _ ks => 1 + cntIs ks
def cntIs : List It → Nat
  | [] => 0
  | k :: r => cntI k + cntIs r
end
mutual
def okD : It → Nat → Bool
  | .mk l b ks, d => match d with
    | 0 => false
    | d + 1 => (if l then b.isEmpty else ks.isEmpty) && okDs ks d
def okDs : List It → Nat → Bool
  | [], _ => true
  | k :: r, d => okD k d && okDs r d
end
def subS (s : List UInt8) (a n : Nat) : List UInt8 := (s.drop a).take n
theorem subS_len {s : List UInt8} {a n : Nat} (h : a + n ≤ s.length) : (subS s a n).length = n := by
  unfold subS; rw [List.length_take, List.length_drop]; omega
theorem subS_add (s : List UInt8) (a n k : Nat) : subS s a (n + k) = subS s a n ++ subS s (a + n) k := by
  unfold subS; rw [List.take_add, List.drop_drop]
theorem subS_zero (s : List UInt8) (a : Nat) : subS s a 0 = [] := by unfold subS; exact List.take_zero
theorem getD_lt {s : List UInt8} {a : Nat} (h : a < s.length) : s.getD a 0 = s[a] := by
  rw [List.getD_eq_getElem?_getD, List.getElem?_eq_getElem h]; rfl
theorem subS_succ {s : List UInt8} {a : Nat} (n : Nat) (h : a < s.length) : subS s a (n + 1) = s.getD a 0 :: subS s (a + 1) n := by
  unfold subS; rw [List.drop_eq_getElem_cons h, List.take_succ_cons, getD_lt h]
theorem subS_head {s t : List UInt8} {c : UInt8} {a n : Nat} (h : subS s a (n + 1) = c :: t) : s.getD a 0 = c ∧ subS s (a + 1) n = t := by
  rcases Nat.lt_or_ge a s.length with ha | ha
  · rw [subS_succ n ha] at h; injection h with h1 h2; exact ⟨h1, h2⟩
  · unfold subS at h; rw [List.drop_eq_nil_of_le ha, List.take_nil] at h; cases h
theorem textL_as {t : List UInt8} (h : ¬ (t.length = 1 ∧ (t.headD 0).toNat < 128)) : textL t = headL 128 t.length ++ t :=
  textL_long fun c hc hlt => h (by subst hc; exact ⟨rfl, hlt⟩)
theorem headL_len (k n : Nat) : (headL k n).length = if n ≤ 55 then 1 else 1 + (lenL n).length := by
  by_cases h : n ≤ 55
  · rw [headL_le h, if_pos h]; rfl
  · rw [headL_gt h, if_neg h, List.length_cons, Nat.add_comm]
theorem headL_pos (k n : Nat) : 0 < (headL k n).length := by rw [headL_len]; split <;> omega
theorem u8_of {c : UInt8} {n : Nat} (h : c.toNat = n) : UInt8.ofNat n = c := by
  refine UInt8.toNat_inj.1 ?_
  rw [UInt8.toNat_ofNat', ← h]
  exact Nat.mod_eq_of_lt c.toNat_lt
theorem u8_to {n : Nat} (h : n < 256) : (UInt8.ofNat n).toNat = n := by rw [UInt8.toNat_ofNat']; exact Nat.mod_eq_of_lt h
theorem sizeD_ok {s : List UInt8} {k e a n b z : Nat} (hae : a < e) (he : e ≤ s.length) (h1 : k ≤ (s.getD a 0).toNat) (h2 : (s.getD a 0).toNat < k + 64) (h : sizeD s k e a = .ok n b z) :
    subS s a (b - a) = headL k n ∧ a < b ∧ b + n ≤ e := by
  unfold sizeD at h
  split at h
  · rename_i c1
    split at h
    · cases h
    · rename_i c2
      injection h with q1 q2 q3
      refine ⟨?_, by omega, by omega⟩
      rw [headL_le (by omega), show b - a = 0 + 1 by omega, subS_succ 0 (by omega), subS_zero, u8_of (c := s.getD a 0) (by omega)]
  · rename_i c1
    split at h
    · cases h
    rename_i c2
    split at h
    · cases h
    rename_i c3
    split at h
    · cases h
    rename_i c4
    injection h with q1 q2 q3
    obtain ⟨g, hg⟩ : ∃ g, g = (s.getD a 0).toNat - k - 55 := ⟨_, rfl⟩
    rw [← hg] at q1 q2 c2 c3 c4
    have hl : ((s.drop (a + 1)).take g).length = g := subS_len (s := s) (a := a + 1) (n := g) (by omega)
    have hd : ((s.drop (a + 1)).take g).headD 1 ≠ 0 := fun h0 => c3 (.inl (by
      obtain ⟨g', rfl⟩ : ∃ g', g = g' + 1 := ⟨g - 1, by omega⟩
      have := subS_succ (s := s) (a := a + 1) g' (by omega)
      unfold subS at this
      rw [this] at h0
      exact h0))
    have hv : numN ((s.drop (a + 1)).take g) < 18446744073709551616 := by
      have h1 := numN_lt ((s.drop (a + 1)).take g)
      rw [hl] at h1
      have h3 : 256 ^ g ≤ 256 ^ 8 := Nat.pow_le_pow_right (by decide) (by omega)
      have h4 : (256 : Nat) ^ 8 = 18446744073709551616 := by decide
      omega
    rw [q1] at hv c3 c4
    have ht : (s.drop (a + 1)).take g = lenL n := numN_inj hd (lenL_head n) (by rw [lenL_num hv, q1])
    refine ⟨?_, by omega, by omega⟩
    have hn : ¬ n ≤ 55 := fun h => c3 (.inr h)
    rw [headL_gt hn, ← ht, hl, show b - a = g + 1 by omega, subS_succ g (by omega), u8_of (c := s.getD a 0) (by omega)]
    rfl
theorem sizeD_bad {s : List UInt8} {k e a x p : Nat} (hae : a < e) (h : sizeD s k e a = .bad x p) : p ≤ e ∧ x ≠ 0 := by
  unfold sizeD at h
  split at h
  · split at h
    · injection h with h1 h2; omega
    · cases h
  · split at h
    · injection h with h1 h2; omega
    split at h
    · injection h with h1 h2; omega
    split at h
    · injection h with h1 h2; omega
    · cases h
theorem sizeD_of {s : List UInt8} {k e a n : Nat} (hk : k ≤ 192) (hn : n < 18446744073709551616) (h : subS s a (headL k n).length = headL k n) (he : a + (headL k n).length + n ≤ e) : sizeD s k e a = .ok n (a + (headL k n).length) 0 := by
  have hl := headL_len k n
  by_cases c : n ≤ 55
  · rw [if_pos c] at hl
    rw [hl] at h he ⊢
    rw [headL_le c] at h
    have h1 := (subS_head (n := 0) h).1
    have h2 : (s.getD a 0).toNat = k + n := by rw [h1, u8_to (by omega)]
    unfold sizeD
    rw [h2, Nat.add_sub_cancel_left, if_pos c, if_neg (by omega)]
  · rw [if_neg c] at hl
    have h8 := lenL_len hn
    rw [hl] at h he ⊢
    rw [headL_gt c, Nat.add_comm 1] at h
    obtain ⟨h1, h3⟩ := subS_head h
    have h2 : (s.getD a 0).toNat = k + 55 + (lenL n).length := by rw [h1, u8_to (by omega)]
    have hne := lenL_ne hn (by omega)
    have h4 : s.getD (a + 1) 0 ≠ 0 := fun h0 => by
      have hh := lenL_head n
      cases hq : lenL n with
      | nil => exact hne hq
      | cons y q =>
        rw [hq] at h3 hh
        have := (subS_head h3).1
        rw [this] at h0
        exact hh h0
    have hg : k + 55 + (lenL n).length - k - 55 = (lenL n).length := by omega
    have h0 : 0 < (lenL n).length := List.length_pos_iff.2 hne
    unfold subS at h3
    unfold sizeD
    rw [h2, hg, if_neg (by omega), if_neg (by omega), h3, lenL_num hn, if_neg (fun hh => hh.elim h4 c), if_neg (by omega)]
    rw [Nat.add_assoc]
def GoodI (s : List UInt8) (d e : Nat) (f : Nat → Nat → Rd It) : Prop :=
  ∀ a m x a' m', f a m = .ok x a' m' → a < a' ∧ a' ≤ e ∧ okD x d = true ∧ m' = m + cntI x ∧ m' ≤ 5000 ∧ encL x = subS s a (a' - a)
theorem listD_ok {s : List UInt8} {d e : Nat} {f : Nat → Nat → Rd It} (hf : GoodI s d e f) : ∀ (k a m : Nat) (l l' : List It) (a' m' : Nat), listD f e k a m l = .ok l' a' m' → a ≤ e → m ≤ 5000 → e - a < k →
    ∃ r, l' = l ++ r ∧ a' = e ∧ okDs r d = true ∧ m' = m + cntIs r ∧ m' ≤ 5000 ∧ encLs r = subS s a (e - a)
  | 0, a, m, l, l', a', m', h, ha, hm, hk => by omega
  | k + 1, a, m, l, l', a', m', h, ha, hm, hk => by
    rw [listD] at h
    split at h
    · rename_i hlt
      split at h
      · cases h
      · rename_i y a1 m1 hy
        obtain ⟨g1, g2, g3, g4, g5, g6⟩ := hf a m y a1 m1 hy
        obtain ⟨r, r1, r2, r3, r4, r5, r6⟩ := listD_ok hf k a1 m1 _ l' a' m' h g2 g5 (by omega)
        refine ⟨y :: r, by rw [r1, List.append_assoc]; rfl, r2, by rw [okDs, g3, r3]; rfl, by rw [cntIs]; omega, r5, ?_⟩
        rw [encLs, g6, r6, show e - a = (a1 - a) + (e - a1) by omega, subS_add, show a + (a1 - a) = a1 by omega]
    · rename_i hge
      injection h with h1 h2 h3
      refine ⟨[], by rw [h1, List.append_nil], by omega, rfl, by rw [cntIs]; omega, by omega, ?_⟩
      rw [show e - a = 0 by omega, subS_zero, encLs]
theorem itemD_ok (s : List UInt8) : ∀ (d e : Nat), e ≤ s.length → GoodI s d e (itemD s d e)
  | 0, e, he, a, m, x, a', m', h => by rw [itemD_zero] at h; cases h
  | d + 1, e, he, a, m, x, a', m', h => by
    rw [itemD_succ] at h; unfold stepD at h
    split at h
    · cases h
    rename_i c1
    split at h
    · cases h
    rename_i c2
    have has : a < s.length := by omega
    split at h
    · rename_i c3
      injection h with h1 h2 h3
      subst h1 h2 h3
      refine ⟨by omega, by omega, rfl, rfl, by omega, ?_⟩
      rw [encL, textL_one c3, show a + 1 - a = 0 + 1 by omega, subS_succ 0 has, subS_zero]
    rename_i c3
    split at h
    · rename_i c4
      split at h
      · cases h
      rename_i n b z hz
      obtain ⟨z1, z2, z3⟩ := sizeD_ok (by omega) he (by omega) (by omega) hz
      unfold textD at h
      split at h
      · cases h
      rename_i c5
      injection h with h1 h2 h3
      subst h1 h2 h3
      have hl : ((s.drop b).take n).length = n := subS_len (s := s) (a := b) (n := n) (by omega)
      refine ⟨by omega, by omega, rfl, rfl, by omega, ?_⟩
      rw [encL, textL_as (fun hh => c5 ?_), hl, ← z1, show b + n - a = (b - a) + n by omega, subS_add, show a + (b - a) = b by omega]
      · rfl
      · rw [hl] at hh
        obtain ⟨rfl, h2⟩ := hh
        refine ⟨rfl, ?_⟩
        have := subS_succ (s := s) (a := b) 0 (by omega)
        unfold subS at this
        rw [this] at h2
        exact h2
    · rename_i c4
      split at h
      · cases h
      rename_i n b z hz
      have hu := (s.getD a 0).toNat_lt
      obtain ⟨z1, z2, z3⟩ := sizeD_ok (by omega) he (by omega) (by omega) hz
      cases hL : listD (fun a m => itemD s d (b + n) a m) (b + n) (s.length + 1) b (m + 1) [] with
      | bad y p => rw [hL] at h; cases h
      | ok l a1 m1 =>
        rw [hL] at h
        injection h with h1 h2 h3
        subst h1 h2 h3
        obtain ⟨r, r1, r2, r3, r4, r5, r6⟩ := listD_ok (itemD_ok s d (b + n) (by omega)) _ _ _ _ _ _ _ hL (by omega) (by omega) (by omega)
        rw [List.nil_append] at r1
        rw [r1]
        subst r2
        have hr : (encLs r).length = n := by rw [r6, subS_len (by omega)]; omega
        refine ⟨by omega, by omega, ?_, by rw [cntI]; omega, r5, ?_⟩
        · rw [okD]; simp [r3]
        · rw [encL, hr, ← z1, r6, show b + n - b = n by omega, show b + n - a = (b - a) + n by omega, subS_add, show a + (b - a) = b by omega]
def BadI (e : Nat) (f : Nat → Nat → Rd It) : Prop := ∀ a m x p, a ≤ e → f a m = .bad x p → p ≤ e ∧ x ≠ 0
theorem listD_bad {s : List UInt8} {d e : Nat} {f : Nat → Nat → Rd It} (hf : GoodI s d e f) (hb : BadI e f) : ∀ (k a m : Nat) (l : List It) (x p : Nat), listD f e k a m l = .bad x p → a ≤ e → p ≤ e ∧ x ≠ 0
  | 0, a, m, l, x, p, h, ha => by rw [listD] at h; cases h
  | k + 1, a, m, l, x, p, h, ha => by
    rw [listD] at h
    split at h
    · rename_i hlt
      split at h
      · rename_i hy
        injection h with h1 h2
        subst h1 h2
        exact hb _ _ _ _ ha hy
      · rename_i y a1 m1 hy
        exact listD_bad hf hb k a1 m1 _ x p h (hf a m y a1 m1 hy).2.1
    · cases h
theorem itemD_bad (s : List UInt8) : ∀ (d e : Nat), e ≤ s.length → BadI e (itemD s d e)
  | 0, e, he, a, m, x, p, ha, h => by rw [itemD_zero] at h; injection h with h1 h2; omega
  | d + 1, e, he, a, m, x, p, ha, h => by
    rw [itemD_succ] at h; unfold stepD at h
    split at h
    · injection h with h1 h2; omega
    split at h
    · injection h with h1 h2; omega
    rename_i c2
    split at h
    · cases h
    rename_i c3
    split at h
    · rename_i c4
      split at h
      · rename_i hz
        injection h with h1 h2
        subst h1 h2
        exact sizeD_bad (by omega) hz
      · unfold textD at h
        split at h
        · injection h with h1 h2; omega
        · cases h
    · rename_i c4
      split at h
      · rename_i hz
        injection h with h1 h2
        subst h1 h2
        exact sizeD_bad (by omega) hz
      · rename_i n b z hz
        have hu := (s.getD a 0).toNat_lt
        obtain ⟨z1, z2, z3⟩ := sizeD_ok (by omega) he (by omega) (by omega) hz
        cases hL : listD (fun a m => itemD s d (b + n) a m) (b + n) (s.length + 1) b (m + 1) [] with
        | ok l a1 m1 => rw [hL] at h; cases h
        | bad y q =>
          rw [hL] at h
          injection h with h1 h2
          subst h1 h2
          have := listD_bad (itemD_ok s d (b + n) (by omega)) (itemD_bad s d (b + n) (by omega)) _ _ _ _ _ _ hL (by omega)
          omega
theorem textL_pos (t : List UInt8) : 0 < (textL t).length := by
  by_cases h : t.length = 1 ∧ (t.headD 0).toNat < 128
  · obtain ⟨c, rfl⟩ := List.length_eq_one_iff.1 h.1
    rw [textL_one (show c.toNat < 128 from h.2)]; exact Nat.one_pos
  · rw [textL_as h, List.length_append]; have := headL_pos 128 t.length; omega
theorem encL_pos : ∀ x : It, 0 < (encL x).length
  | .mk true b ks => by rw [encL, List.length_append]; have := headL_pos 192 (encLs ks).length; omega
  | .mk false b ks => by rw [encL]; exact textL_pos b
def BackI (s : List UInt8) (x : It) : Prop :=
  ∀ d e a m, okD x d = true → m + cntI x ≤ 5000 → a + (encL x).length ≤ e → e ≤ s.length → subS s a (encL x).length = encL x → (encL x).length < 18446744073709551616 → itemD s d e a m = .ok x (a + (encL x).length) (m + cntI x)
theorem subS_split {s p q : List UInt8} {a n : Nat} (h : subS s a n = p ++ q) (hn : n = p.length + q.length) : subS s a p.length = p ∧ subS s (a + p.length) q.length = q := by
  have h1 : subS s a p.length = p := by
    have := congrArg (List.take p.length) h
    rw [List.take_append_of_le_length (Nat.le_refl _), List.take_length] at this
    unfold subS at this ⊢
    rw [List.take_take, show min p.length n = p.length by omega] at this
    exact this
  refine ⟨h1, ?_⟩
  rw [hn, subS_add, h1] at h
  exact List.append_cancel_left h
theorem listD_of {s : List UInt8} {d e : Nat} : ∀ (ks : List It), (∀ k ∈ ks, BackI s k) → ∀ (q a m : Nat) (l : List It), okDs ks d = true → m + cntIs ks ≤ 5000 → e = a + (encLs ks).length → e ≤ s.length → subS s a (encLs ks).length = encLs ks → (encLs ks).length < 18446744073709551616 → e - a < q →
    listD (fun a m => itemD s d e a m) e q a m l = .ok (l ++ ks) e (m + cntIs ks)
  | _, _, 0, a, m, l, _, _, _, _, _, _, hq => by omega
  | [], _, q + 1, a, m, l, _, _, he, _, _, _, _ => by
    rw [encLs, List.length_nil, Nat.add_zero] at he
    rw [listD, if_neg (by omega), List.append_nil, cntIs, he]; rfl
  | k :: r, hks, q + 1, a, m, l, ho, hm, he, hes, hs, hl, hq => by
    rw [okDs, Bool.and_eq_true] at ho
    rw [cntIs] at hm
    have h0 := encL_pos k
    rw [encLs, List.length_append] at he hl
    rw [encLs] at hs
    obtain ⟨s1, s2⟩ := subS_split hs (by rw [List.length_append])
    have h1 := hks k (by simp) d e a m ho.1 (by omega) (by omega) hes s1 (by omega)
    rw [listD, if_pos (by omega)]
    rw [h1]
    dsimp only
    rw [listD_of r (fun k hk => hks k (by simp [hk])) q _ _ _ ho.2 (by omega) (by omega) hes s2 (by omega) (by omega), List.append_assoc, cntIs, Nat.add_assoc]
    rfl
theorem itemD_of (s : List UInt8) (x : It) : BackI s x := by
  induction x using It.ind with
  | h x ih =>
    obtain ⟨l, b, ks⟩ := x
    intro d e a m ho hm hae hes hs hl
    have h0 := encL_pos (.mk l b ks)
    cases d with
    | zero => rw [okD] at ho; cases ho
    | succ d =>
    rw [okD, Bool.and_eq_true] at ho
    have hm1 : ¬ 5000 ≤ m := by rw [cntI] at hm; omega
    rw [itemD_succ]; unfold stepD; rw [if_neg hm1, if_neg (by omega)]
    cases l with
    | false =>
      have hk : ks = [] := by simpa [List.isEmpty_iff] using ho.1
      subst hk
      rw [encL] at hs hae hl ⊢
      by_cases h : b.length = 1 ∧ (b.headD 0).toNat < 128
      · obtain ⟨c, rfl⟩ := List.length_eq_one_iff.1 h.1
        have h2 : c.toNat < 128 := h.2
        rw [textL_one h2] at hs hae hl ⊢
        have := (subS_head (n := 0) hs).1
        rw [this, if_pos h2]
        rfl
      · rw [textL_as h] at hs hae hl ⊢
        rw [List.length_append] at hs hae hl ⊢
        obtain ⟨s1, s2⟩ := subS_split hs rfl
        have hz := sizeD_of (e := e) (by decide) (by omega) s1 (by omega)
        have hb : 128 ≤ (s.getD a 0).toNat ∧ (s.getD a 0).toNat < 192 := by
          have hq := headL_len 128 b.length
          by_cases c : b.length ≤ 55
          · rw [if_pos c] at hq; rw [hq, headL_le c] at s1
            rw [(subS_head (n := 0) s1).1, u8_to (by omega)]; omega
          · rw [if_neg c, Nat.add_comm] at hq; rw [hq, headL_gt c] at s1
            have := lenL_len (n := b.length) (by omega)
            rw [(subS_head s1).1, u8_to (by omega)]; omega
        rw [if_neg (by omega), if_pos hb.2, hz]
        dsimp only
        unfold textD
        unfold subS at s2
        rw [if_neg, s2, Nat.add_assoc]
        · rfl
        · rintro ⟨h1, h2⟩
          refine h ⟨h1, ?_⟩
          rw [h1] at s2
          have := (subS_head (s := s) (n := 0) (c := b.headD 0) (t := []) (a := a + (headL 128 b.length).length) ?_).1
          · rw [← this]; exact h2
          · unfold subS; rw [show 0 + 1 = 1 from rfl, h1, s2]
            obtain ⟨c, rfl⟩ := List.length_eq_one_iff.1 h1
            rfl
    | true =>
      have hb0 : b = [] := by simpa [List.isEmpty_iff] using ho.1
      subst hb0
      rw [encL] at hs hae hl ⊢
      rw [List.length_append] at hs hae hl ⊢
      obtain ⟨s1, s2⟩ := subS_split hs rfl
      have hz := sizeD_of (e := e) (by decide) (by omega) s1 (by omega)
      have hb : 192 ≤ (s.getD a 0).toNat := by
        have hq := headL_len 192 (encLs ks).length
        by_cases c : (encLs ks).length ≤ 55
        · rw [if_pos c] at hq; rw [hq, headL_le c] at s1
          rw [(subS_head (n := 0) s1).1, u8_to (by omega)]; omega
        · rw [if_neg c, Nat.add_comm] at hq; rw [hq, headL_gt c] at s1
          have := lenL_len (n := (encLs ks).length) (by omega)
          rw [(subS_head s1).1, u8_to (by omega)]; omega
      rw [if_neg (by omega), if_neg (by omega), hz]
      dsimp only
      rw [cntI] at hm ⊢
      have := listD_of (s := s) (d := d) (e := a + (headL 192 (encLs ks).length).length + (encLs ks).length) ks (fun k hk => ih k hk) (s.length + 1) (a + (headL 192 (encLs ks).length).length) (m + 1) [] ho.2 (by omega) rfl (by omega) s2 (by omega) (by omega)
      rw [this]
      unfold packD
      dsimp only
      rw [List.nil_append, Nat.add_assoc, Nat.add_assoc]
mutual
theorem all_okD : ∀ (x : It) (d : Nat), d ≤ 17 → (allI x d).all (fun p => decide (p.1 ≤ 16) && wfI p.2) = okD x (17 - d)
  | .mk l b ks, d, hd => by
    rw [allI, List.all_cons]
    by_cases h : 16 < d
    · rw [if_pos h, show 17 - d = 0 by omega, okD, decide_eq_false (by omega)]; rfl
    · obtain ⟨k, hk⟩ : ∃ k, 17 - d = k + 1 := ⟨17 - d - 1, by omega⟩
      rw [if_neg h, all_okDs ks (d + 1) (by omega), hk, okD, show 17 - (d + 1) = k by omega, decide_eq_true (by omega), Bool.true_and]
      rfl
theorem all_okDs : ∀ (ks : List It) (d : Nat), d ≤ 17 → (allIs ks d).all (fun p => decide (p.1 ≤ 16) && wfI p.2) = okDs ks (17 - d)
  | [], d, hd => by rw [allIs, okDs]; rfl
  | k :: r, d, hd => by rw [allIs, List.all_append, all_okD k d hd, all_okDs r d hd, okDs]
end
mutual
theorem all_cnt : ∀ (x : It) (d : Nat), d ≤ 17 → okD x (17 - d) = true → (allI x d).length = cntI x
  | .mk l b ks, d, hd, h => by
    by_cases h16 : 16 < d
    · rw [show 17 - d = 0 by omega, okD] at h; cases h
    · obtain ⟨k, hk⟩ : ∃ k, 17 - d = k + 1 := ⟨17 - d - 1, by omega⟩
      rw [hk, okD, Bool.and_eq_true] at h
      rw [allI, if_neg h16, List.length_cons, all_cnts ks (d + 1) (by omega) (by rw [show 17 - (d + 1) = k by omega]; exact h.2), cntI, Nat.add_comm]
theorem all_cnts : ∀ (ks : List It) (d : Nat), d ≤ 17 → okDs ks (17 - d) = true → (allIs ks d).length = cntIs ks
  | [], d, hd, _ => by rw [allIs, cntIs]; rfl
  | k :: r, d, hd, h => by
    rw [okDs, Bool.and_eq_true] at h
    rw [allIs, List.length_append, all_cnt k d hd h.1, all_cnts r d hd h.2, cntIs]
end
theorem rightI_eq (x : It) : rightI x = (okD x 16 && decide (cntI x ≤ 5000)) := by
  unfold rightI
  rw [all_okD x 1 (by decide)]
  show (_ && okD x 16) = _
  cases h : okD x 16 with
  | false => rw [Bool.and_false, Bool.false_and]
  | true => rw [all_cnt x 1 (by decide) h, Bool.and_true, Bool.true_and]
theorem rightI_ok {x : It} (h : rightI x = true) : okD x 16 = true ∧ cntI x ≤ 5000 := by
  rw [rightI_eq, Bool.and_eq_true, decide_eq_true_eq] at h; exact h
theorem wholeD_ok {s : List UInt8} {x : It} {a m : Nat} (h : wholeD s = .ok x a m) : rightI x = true ∧ encL x = s := by
  unfold wholeD at h
  split at h
  · cases h
  rename_i y a1 m1 hy
  split at h
  · cases h
  rename_i c
  injection h with h1 h2 h3
  subst h1 h2 h3
  obtain ⟨g1, g2, g3, g4, g5, g6⟩ := itemD_ok s 16 s.length (Nat.le_refl _) _ _ _ _ _ hy
  refine ⟨by rw [rightI_eq, g3, decide_eq_true (by omega)]; rfl, ?_⟩
  rw [g6]
  unfold subS
  rw [List.drop_zero, List.take_of_length_le (by omega)]
theorem wholeD_bad {s : List UInt8} {x p : Nat} (h : wholeD s = .bad x p) : p ≤ s.length ∧ x ≠ 0 := by
  unfold wholeD at h
  split at h
  · rename_i hy
    injection h with h1 h2
    subst h1 h2
    exact itemD_bad s 16 s.length (Nat.le_refl _) _ _ _ _ (Nat.zero_le _) hy
  · split at h
    · injection h with h1 h2; omega
    · cases h
theorem item_of {x : It} (hr : rightI x = true) (r : List UInt8) (hl : (encL x).length < 18446744073709551616) : itemD (encL x ++ r) 16 (encL x ++ r).length 0 0 = .ok x (encL x).length (cntI x) := by
  obtain ⟨h1, h2⟩ := rightI_ok hr
  have := itemD_of (encL x ++ r) x 16 (encL x ++ r).length 0 0 h1 (by omega) (by rw [List.length_append]; omega) (Nat.le_refl _) (by unfold subS; rw [List.drop_zero, List.take_append_of_le_length (Nat.le_refl _), List.take_length]) hl
  rw [this, Nat.zero_add, Nat.zero_add]
theorem decD_back {x : It} (hr : rightI x = true) (hl : (encL x).length ≤ 1048576) : decD (encL x) = (x, 0, 0) := by
  have h := item_of hr [] (by omega)
  rw [List.append_nil] at h
  unfold decD wholeD
  rw [if_neg (by omega), h]
  dsimp only
  rw [if_neg (Nat.lt_irrefl _)]
end Go.Ev
set_option linter.unusedSimpArgs false
set_option linter.unusedVariables false
namespace Go.Ev
end Go.Ev
namespace Go.Proofs.YtolmipnaheifcaaDoor
open Go Go.Ev Go.Proofs
set_option maxRecDepth 100000
set_option maxHeartbeats 4000000
end Go.Proofs.YtolmipnaheifcaaDoor
set_option linter.unusedSimpArgs false
set_option linter.unusedVariables false
namespace Go.Ev
theorem W.ceqC (x y : W) : Go.Ev.eqC [.i, .i, .i, .i] x.cells y.cells = some (decide (x = y)) := by
  have h : ∀ (p q r s : Bool) (P : Prop) [Decidable P], (P ↔ (p = true ∧ q = true ∧ r = true ∧ s = true)) → (p && (q && (r && (s && true)))) = decide P := by
    intro p q r s P _ hh
    cases p <;> cases q <;> cases r <;> cases s <;> simp_all
  simp only [W.cells, Go.Ev.eqC, if_true, Option.map_some, Option.some.injEq]
  refine h _ _ _ _ _ ⟨fun h => by subst h; simp, fun h => ?_⟩
  simp only [beq_iff_eq] at h
  exact W.eq (by omega) (by omega) (by omega) (by omega)
theorem W.ceqV {P : Program} {t : TypeId} (x y : W) (h1 : tyI P t = some (4, true)) (h2 : P.eqGuardType P.depth t = false) (h3 : flatK P 12 t = some [.i, .i, .i, .i]) : Go.Ev.eqV P t x.v y.v = some (decide (x = y)) := by
  unfold Go.Ev.eqV W.v
  simp only [h1, h2, h3, Bool.false_eq_true, if_false, Option.bind_some]
  exact W.ceqC x y
theorem W.ceql {P : Program} {t : TypeId} (x y : W) (h1 : tyI P t = some (4, true)) (h2 : P.eqGuardType P.depth t = false) (h3 : flatK P 12 t = some [.i, .i, .i, .i]) : binQ P .eql t x.v y.v = some (.bool (decide (x = y))) := by
  show (Go.Ev.eqV P t x.v y.v).map Value.bool = _
  rw [W.ceqV x y h1 h2 h3]; rfl
theorem W.cneq {P : Program} {t : TypeId} (x y : W) (h1 : tyI P t = some (4, true)) (h2 : P.eqGuardType P.depth t = false) (h3 : flatK P 12 t = some [.i, .i, .i, .i]) : binQ P .neq t x.v y.v = some (.bool (!decide (x = y))) := by
  show (Go.Ev.eqV P t x.v y.v).map (fun r => Value.bool !r) = _
  rw [W.ceqV x y h1 h2 h3]; rfl
attribute [push_cast] W.ceql W.cneq
end Go.Ev
namespace Go.Proofs.YtolmipnaheifcaaDoor
open Go Go.Ev Go.Proofs
set_option maxRecDepth 100000
set_option maxHeartbeats 4000000
end Go.Proofs.YtolmipnaheifcaaDoor
set_option linter.unusedSimpArgs false
set_option linter.unusedVariables false
namespace Go.Proofs.YtolmipnaheifcaaDoor
open Go Go.Ev Go.Proofs
set_option maxRecDepth 100000
set_option maxHeartbeats 4000000
theorem refBytes (w : W) : CallsV Tryd.prog 37 [w.v] [] (Ret0 (.string ⟨(wbytes w).toArray⟩)) := by
  refine callsO (noG_ok _) Tryd.mix Tryd.pl37 Tryd.func37 rfl Tryd.ntmps37 Tryd.results37 rfl (by first | rfl | assumption) (Nat.le_of_ble_eq_true rfl) (by kernel_rfl) ?_
  simp only [push_cast, seval, reduceCtorEq]
  intro b1
  refine (digits_ok w).use trivial fun v1 N1 ho1 => ⟨ho1.wr.1, ho1.wr.2, fun hf1 => ?_⟩
  obtain ⟨bx, cx, rfl, hcx, -, rfl⟩ := ho1.pos (by decide)
  simp only [push_cast, seval, reduceCtorEq] at hf1
  obtain ⟨Ex, hEx⟩ : ∃ e : Ent, e = ⟨bx, 0, .vec 3 1 cx, zs (digs w.num 32)⟩ := ⟨_, rfl⟩
  have Exk : Ex.kind = .vec 3 1 cx := by rw [hEx]
  have Exb : Ex.blk = bx := by rw [hEx]
  have Exo : Ex.off = 0 := by rw [hEx]
  have Exl : Ex.cells.length = 32 := by rw [hEx]; show (zs _).length = 32; rw [zs_len, digs_len]
  have Exm : marksOf [Ex] = [] := by rw [hEx]; rfl
  rw [← hEx]
  simp only [push_cast, seval, reduceCtorEq, hf1, Exb, Exk]
  refine loopO (noG_ok _) (pl := Tryd.pl37) Tryd.mix (X := Nat × Value × Hp)
    (fun s => ([(3, .slice (some ⟨bx, 0, none⟩) 32 cx), (4, s.2.1), (5, .int .i64 ((s.1 : Int) - 1))], s.2.2 ++ [Ex]))
    (fun s => s.1 ≤ 32 ∧ OutC 5 1 (byteV ((wbytes w).take (32 - s.1))) (32 - s.1) s.2.1 s.2.2 ∧ freshN s.2.2 [Ex]) (fun s => s.1) (32, .slice none 0 0, []) ?_ ?_ (by kernel_rfl) ?_
  · exact ⟨Nat.le_refl _, .nil _ _, trivial⟩
  · simp only [push_cast, seval, reduceCtorEq, hf1, Exb, Exk]
    done
  · rintro ⟨s, vo, No⟩ ⟨hi, ho, hf⟩
    dsimp only at hi ho hf ⊢
    have f0 : findE [Ex] bx = some Ex := by simp [findE, Exb]
    have fb : findE (No ++ [Ex]) bx = some Ex := by rw [findE_freshN hf f0]; exact f0
    rcases Nat.eq_zero_or_pos s with rfl | h0
    · obtain ⟨bz, cz, rfl, hcz, hzl, rfl⟩ := ho.pos (by decide)
      have hw := wbytes_len w
      have hbo := bytesOf_byteV (wbytes w)
      have e32 : List.take (32 - 0) (wbytes w) = wbytes w := List.take_of_length_le (by rw [hw]; exact Nat.le_refl _)
      have htk : List.take 32 (byteV (wbytes w)) = byteV (wbytes w) := List.take_of_length_le (by rw [byteV_len, hw]; exact Nat.le_refl _)
      have hbl : (byteV (wbytes w)).length = 32 := by rw [byteV_len, hw]
      rw [e32]
      simp only [push_cast, seval, reduceCtorEq, strOfV, htk, hbl, hbo]
      done
    · obtain ⟨i, rfl⟩ : ∃ i, s = i + 1 := ⟨s - 1, by omega⟩
      have ej : ((i + 1 : Nat) : Int) - 1 = (i : Int) := by omega
      have i0 : (0 : Int) ≤ (i : Int) := by omega
      have i1 : (i : Int) < 32 := by omega
      have i2 : i + 1 ≤ 32 := by omega
      rw [ej]
      have hdl := digN_lt w.num i
      have hat : List.take 1 (List.drop i Ex.cells) = [.int .i64 ((digN w.num i : Nat) : Int)] := by
        rw [hEx]
        show List.take 1 (List.drop i (zs (digs w.num 32))) = _
        have hl : i < (digs w.num 32).length := by rw [digs_len]; omega
        unfold zs
        rw [← List.map_drop, ← List.map_take, List.drop_eq_getElem_cons hl, List.take_succ_cons, List.take_zero, List.map_cons, List.map_nil]
        simp [digs]
      have hk1 : 31 - i < (wbytes w).length := by rw [wbytes_len]; omega
      have hby := byteV_take (wbytes w) hk1
      have hge : (wbytes w)[31 - i] = UInt8.ofNat (digN w.num i) := by
        have := wbytes_at w (j := 31 - i) (by omega)
        rw [List.getElem?_eq_getElem hk1, show 31 - (31 - i) = i by omega] at this
        exact Option.some.inj this
      rw [hge, ofNat_dig, show 31 - i + 1 = 32 - i by omega, show 31 - i = 32 - (i + 1) by omega] at hby
      simp only [push_cast, seval, reduceCtorEq, fb, i0, i1, i2, hat, Exk, Exo, Exl, wrap_u8' (n := ((digN w.num i : Nat) : Int)) (by omega)]
      intro b10 hb10
      refine append_out1 (e := 5) (sz := 1) (by_ := 1) (n := 32 - (i + 1)) (m := 1) (ys := [.int .u8 ((digN w.num i : Nat) : Int)]) ho hb10 (by simp only [push_cast, seval, reduceCtorEq]) (by simp only [push_cast, seval, reduceCtorEq]) rfl rfl (by unfold two47; omega) fun v' N' ho' hf' => ?_
      simp only [push_cast, seval, reduceCtorEq, wrap_i64' (show -9223372036854775808 ≤ (i : Int) - 1 ∧ (i : Int) - 1 ≤ 9223372036854775807 by omega)]
      refine ⟨(i, v', N'), ⟨by dsimp only; omega, ?_, freshN_cons hf'⟩, by dsimp only; omega, ⟨rfl, rfl⟩, subH_pre (subH_cons (fresh_app hb10)) _, ?_⟩
      · dsimp only
        rw [hby, show 32 - i = 32 - (i + 1) + 1 by omega]
        exact ho'
      · simp only [marks_append, marksOf, ho.wr.2, ho'.wr.2]
end Go.Proofs.YtolmipnaheifcaaDoor
set_option linter.unusedSimpArgs false
set_option linter.unusedVariables false
namespace Go.Ev
noncomputable def cF : Nat → (Nat → Value) → List Value := hid fun n f => (List.range n).map f
theorem cF_eq (n : Nat) (f : Nat → Value) : cF n f = (List.range n).map f := by unfold cF; rw [hid_eq]
theorem cF_len (n : Nat) (f : Nat → Value) : (cF n f).length = n := by rw [cF_eq, List.length_map, List.length_range]
theorem cF_get (n : Nat) (f : Nat → Value) (i : Nat) : (cF n f)[i]? = if i < n then some (f i) else none := by
  rw [cF_eq, List.getElem?_map]
  split
  · rename_i h; rw [List.getElem?_range h]; rfl
  · rename_i h; rw [List.getElem?_eq_none (by simpa using h)]; rfl
theorem cF_at (n : Nat) (f : Nat → Value) {i : Nat} (h : i < n) : List.take 1 (List.drop i (cF n f)) = [f i] := by
  have hl : i < (cF n f).length := by rw [cF_len]; exact h
  rw [List.drop_eq_getElem_cons hl, List.take_succ_cons, List.take_zero]
  have := cF_get n f i
  rw [List.getElem?_eq_getElem hl, if_pos h] at this
  rw [Option.some.inj this]
def updV (f : Nat → Value) (i : Nat) (v : Value) : Nat → Value := fun j => if j = i then v else f j
theorem cF_set (n : Nat) (f : Nat → Value) {i : Nat} (h : i < n) (v : Value) : List.take i (cF n f) ++ v :: List.drop (i + 1) (cF n f) = cF n (updV f i v) := by
  have hl := cF_len n f
  refine List.ext_getElem? fun j => ?_
  rw [cF_get]
  have ht : (List.take i (cF n f)).length = i := by rw [List.length_take, hl]; omega
  rcases Nat.lt_trichotomy j i with h1 | rfl | h1
  · rw [List.getElem?_append_left (by omega), List.getElem?_take_of_lt h1, cF_get, if_pos (by omega), if_pos (by omega)]
    unfold updV; rw [if_neg (by omega : ¬ j = i)]
  · rw [List.getElem?_append_right (by omega), ht, Nat.sub_self, List.getElem?_cons_zero, if_pos h]
    unfold updV; rw [if_pos rfl]
  · rw [List.getElem?_append_right (by omega), ht, show j - i = (j - i - 1) + 1 by omega, List.getElem?_cons_succ, List.getElem?_drop, show i + 1 + (j - i - 1) = j by omega, cF_get]
    unfold updV; rw [if_neg (by omega : ¬ j = i)]
theorem cF_congr (n : Nat) {f g : Nat → Value} (h : ∀ j, j < n → f j = g j) : cF n f = cF n g := by
  rw [cF_eq, cF_eq]
  exact List.map_congr_left fun j hj => h j (List.mem_range.1 hj)
def byF (l : List UInt8) : Nat → Value := fun k => .int .u8 ((l.getD k 0).toNat : Nat)
theorem byteV_cF (l : List UInt8) : byteV l = cF l.length (byF l) := by
  refine List.ext_getElem? fun j => ?_
  rw [cF_get]
  unfold byteV byF
  rw [List.getElem?_map]
  split
  · rename_i h; rw [List.getElem?_eq_getElem h, List.getD_eq_getElem?_getD, List.getElem?_eq_getElem h]; rfl
  · rename_i h; rw [List.getElem?_eq_none (by omega)]; rfl
noncomputable def swpF (l : List UInt8) (i : Nat) : Nat → Value := fun k => if k < i ∨ l.length - i ≤ k then byF l (l.length - 1 - k) else byF l k
theorem swpF_zero (l : List UInt8) : cF l.length (swpF l 0) = byteV l := by
  rw [byteV_cF]
  exact cF_congr _ fun j hj => by unfold swpF; rw [if_neg (by omega)]
theorem swpF_step (l : List UInt8) {i : Nat} (h : i + i + 1 < l.length) : updV (updV (swpF l i) i (swpF l i (l.length - 1 - i))) (l.length - 1 - i) (swpF l i i) = swpF l (i + 1) := by
  funext k
  unfold updV
  have e1 : swpF l i (l.length - 1 - i) = byF l (l.length - 1 - i) := by unfold swpF; rw [if_neg (by omega)]
  have e2 : swpF l i i = byF l i := by unfold swpF; rw [if_neg (by omega)]
  rw [e1, e2]
  by_cases h1 : k = l.length - 1 - i
  · rw [if_pos h1]
    unfold swpF; rw [if_pos (by omega)]
    congr 1; omega
  · rw [if_neg h1]
    by_cases h2 : k = i
    · rw [if_pos h2]
      unfold swpF; rw [if_pos (by omega)]
      congr 1; omega
    · rw [if_neg h2]
      unfold swpF
      by_cases h3 : k < i ∨ l.length - i ≤ k
      · rw [if_pos h3, if_pos (by omega)]
      · rw [if_neg h3, if_neg (by omega)]
theorem swpF_done (l : List UInt8) {i : Nat} (h : l.length ≤ i + i + 1) : cF l.length (swpF l i) = byteV l.reverse := by
  rw [byteV_cF, List.length_reverse]
  refine cF_congr _ fun j hj => ?_
  have e : byF l.reverse j = byF l (l.length - 1 - j) := by
    unfold byF
    rw [List.getD_eq_getElem?_getD, List.getD_eq_getElem?_getD, List.getElem?_reverse hj]
  rw [e]
  unfold swpF
  split
  · rfl
  · congr 1; omega
end Go.Ev
namespace Go.Proofs.YtolmipnaheifcaaDoor
open Go Go.Ev Go.Proofs
set_option maxRecDepth 100000
set_option maxHeartbeats 4000000
theorem reverse_ok (b c : Nat) (l : List UInt8) (hl : l.length < 4611686018427387904) : CallsV Tryd.prog 73 [.slice (some ⟨b, 0, none⟩) l.length c] [⟨b, 0, .vec 5 1 c, byteV l⟩] (fun r N => r = .tuple #[] ∧ N = [⟨b, 0, .vec 5 1 c, byteV l.reverse⟩]) := by
  refine callsO (noG_ok _) Tryd.mix Tryd.pl73 Tryd.func73 rfl Tryd.ntmps73 Tryd.results73 rfl (by first | rfl | assumption) (Nat.le_of_ble_eq_true rfl) (by kernel_rfl) ?_
  simp only [push_cast, seval, reduceCtorEq]
  refine loopO (noG_ok _) (pl := Tryd.pl73) Tryd.mix (X := Nat)
    (fun i => ([(0, .slice (some ⟨b, 0, none⟩) l.length c), (2, .int .i64 i), (3, .int .i64 ((l.length : Int) - 1 - (i : Int)))], [⟨b, 0, .vec 5 1 c, cF l.length (swpF l i)⟩]))
    (fun i => i ≤ l.length) (fun i => l.length - i) 0 ?_ ?_ (by kernel_rfl) ?_
  · exact Nat.zero_le _
  · rw [swpF_zero]
    simp only [push_cast, seval, reduceCtorEq, wrap_i64' (show -9223372036854775808 ≤ (l.length : Int) - 1 ∧ (l.length : Int) - 1 ≤ 9223372036854775807 by omega), Int.sub_zero]
  · intro i hi
    dsimp only at hi ⊢
    rcases Nat.lt_or_ge (i + i + 1) l.length with hlt | hge
    · obtain ⟨j, hj⟩ : ∃ j, j = l.length - 1 - i := ⟨_, rfl⟩
      have ej : (l.length : Int) - 1 - (i : Int) = (j : Int) := by omega
      have ij : (i : Int) < (j : Int) := by omega
      have i1 : (i : Int) < (l.length : Int) := by omega
      have j1 : (j : Int) < (l.length : Int) := by omega
      have i2 : i + 1 ≤ l.length := by omega
      have j2 : j + 1 ≤ l.length := by omega
      have hs := swpF_step l hlt
      rw [← hj] at hs
      have a1 := cF_at l.length (swpF l i) (i := i) (by omega)
      have a2 := cF_at l.length (swpF l i) (i := j) (by omega)
      obtain ⟨x, hx⟩ : ∃ x : Int, swpF l i i = .int .u8 x := by unfold swpF; split <;> exact ⟨_, rfl⟩
      obtain ⟨y, hy⟩ : ∃ x : Int, swpF l i j = .int .u8 x := by unfold swpF; split <;> exact ⟨_, rfl⟩
      rw [hx] at hs a1
      rw [hy] at hs a2
      have s1 := cF_set l.length (swpF l i) (i := i) (by omega) (.int .u8 y)
      have s2 := cF_set l.length (updV (swpF l i) i (.int .u8 y)) (i := j) (by omega) (.int .u8 x)
      rw [hs] at s2
      rw [ej]
      simp only [push_cast, seval, reduceCtorEq, ij, i1, j1, i2, j2, cF_len, a1, a2, s1, s2, wrap_i64' (show -9223372036854775808 ≤ (i : Int) + 1 ∧ (i : Int) + 1 ≤ 9223372036854775807 by omega), wrap_i64' (show -9223372036854775808 ≤ (j : Int) - 1 ∧ (j : Int) - 1 ≤ 9223372036854775807 by omega)]
      exact ⟨i + 1, by omega, by omega, ⟨rfl, by congr 1; omega⟩, rfl⟩
    · have hn : ¬ (i : Int) < (l.length : Int) - 1 - (i : Int) := by omega
      simp only [push_cast, seval, reduceCtorEq, hn]
      rw [swpF_done l hge]
      exact ⟨_, .refl _, rfl⟩
theorem clone_ok (b o n c : Nat) (l : List UInt8) (hl : l.length = n) (hn : n < 1099511627776) :
    CallsV Tryd.prog 72 [.slice (some ⟨b, o, none⟩) n c] [⟨b, o, .ro, byteV l⟩] (NewS 5 1 n (byteV l)) := by
  have tk : List.take n (byteV l) = byteV l := List.take_of_length_le (by rw [byteV_len, hl]; exact Nat.le_refl _)
  refine callsO (noG_ok _) Tryd.mix Tryd.pl72 Tryd.func72 rfl Tryd.ntmps72 Tryd.results72 rfl (by first | rfl | assumption) (Nat.le_of_ble_eq_true rfl) (by kernel_rfl) ?_
  simp only [push_cast, seval, reduceCtorEq]
  intro b1 hb1
  simp only [push_cast, seval, reduceCtorEq, hb1, byteV_len, hl, tk, two47, byteV_one]
  exact ⟨by omega, fun b2 c2 hb2 hc2 => sub1 ⟨b2, c2, rfl, hc2, rfl⟩⟩
theorem reversed_ok (b o n c : Nat) (l : List UInt8) (hl : l.length = n) (hn : n < 1099511627776) :
    CallsV Tryd.prog 54 [.slice (some ⟨b, o, none⟩) n c] [⟨b, o, .ro, byteV l⟩] (NewS 5 1 n (byteV l.reverse)) := by
  have tk : List.take n (byteV l) = byteV l := List.take_of_length_le (by rw [byteV_len, hl]; exact Nat.le_refl _)
  refine callsO (noG_ok _) Tryd.mix Tryd.pl54 Tryd.func54 rfl Tryd.ntmps54 Tryd.results54 rfl (by first | rfl | assumption) (Nat.le_of_ble_eq_true rfl) (by kernel_rfl) ?_
  simp only [push_cast, seval, reduceCtorEq]
  refine (clone_ok b o n c l hl hn).use ?_ ?_
  · simp only [push_cast, seval, reduceCtorEq, byteV_len, hl, tk]
  rintro v N ⟨b1, c1, rfl, hc1, rfl⟩
  simp only [push_cast, seval, reduceCtorEq]
  intro hb1
  have hr := reverse_ok b1 c1 l (by omega)
  rw [hl] at hr
  refine CallsV.useM (m := ⟨b1, 0, .vec 5 1 c1, byteV l⟩) (Hf := []) hr ?_ rfl trivial ?_
  · simp only [push_cast, seval, reduceCtorEq]
  rintro v N ⟨rfl, rfl⟩
  simp only [push_cast, seval, reduceCtorEq, hb1]
  exact sub1 ⟨b1, c1, rfl, hc1, rfl⟩
theorem last_ok (b n c : Nat) (hc : n ≤ c) (hn : n < 4611686018427387904) : CallsV Tryd.prog 55 [.slice (some ⟨b, 0, none⟩) n c, .int .i64 32] [] (Ret0 (.slice (some ⟨b, n - 32, none⟩) (n - (n - 32)) (c - (n - 32)))) := by
  have e1 : (if (n : Int) - 32 < 0 then (0 : Int) else (n : Int) - 32) = ((n - 32 : Nat) : Int) := by split <;> omega
  obtain ⟨k, hk⟩ : ∃ k, k = n - 32 := ⟨_, rfl⟩
  have k1 : k ≤ n := by omega
  have k2 : (k : Int) ≤ (n : Int) := by omega
  rw [← hk] at e1 ⊢
  refine callsO (noG_ok _) Tryd.mix Tryd.pl55 Tryd.func55 rfl Tryd.ntmps55 Tryd.results55 rfl (by first | rfl | assumption) (Nat.le_of_ble_eq_true rfl) (by kernel_rfl) ?_
  simp only [push_cast, seval, reduceCtorEq, wrap_i64' (show -9223372036854775808 ≤ (n : Int) - 32 ∧ (n : Int) - 32 ≤ 9223372036854775807 by omega), e1, hc, k1, k2]
  split
  · have k0 : k = 0 := by omega
    rw [k0]
  · rfl
end Go.Proofs.YtolmipnaheifcaaDoor
set_option linter.unusedSimpArgs false
set_option linter.unusedVariables false
namespace Go.Ev
theorem beN_take (r : List UInt8) : ∀ {i : Nat} (h : i < r.length), beN (r.take (i + 1)) = beN (r.take i) + (r[i]).toNat * 256 ^ i := by
  induction r with
  | nil => intro i h; exact absurd h (Nat.not_lt_zero _)
  | cons x r ih =>
    intro i h
    cases i with
    | zero => simp [beN]
    | succ i =>
      simp only [List.take_succ_cons, beN, List.getElem_cons_succ]
      have e : ∀ a p : Nat, 256 * (a * p) = a * (p * 256) := fun a p => by rw [← Nat.mul_assoc, Nat.mul_comm 256 a, Nat.mul_assoc, Nat.mul_comm 256 p]
      rw [ih (by simpa using h), Nat.pow_succ, Nat.mul_add, e, Nat.add_assoc]
theorem beN_take_lt (r : List UInt8) {i : Nat} (h : i ≤ r.length) : beN (r.take i) < 256 ^ i := by
  have := beN_lt (r.take i)
  rw [List.length_take, Nat.min_eq_left h] at this
  exact this
theorem or_shl {x c r : Nat} (hr : r < 8) (hx : x < 256 ^ r) (hc : c < 256) : bitsI .or .u64 (x : Int) (shlI .u64 (c : Int) ((r : Int) * 8)) = ((x + c * 256 ^ r : Nat) : Int) ∧ x + c * 256 ^ r < 18446744073709551616 := by
  have e8 : (256 : Nat) ^ r = 2 ^ (8 * r) := by rw [Nat.pow_mul]
  have hle : (256 : Nat) ^ r ≤ 256 ^ 7 := Nat.pow_le_pow_right (by decide) (by omega)
  have hc2 : c * 256 ^ r ≤ 255 * 256 ^ r := Nat.mul_le_mul_right _ (by omega)
  have hlt : x + c * 256 ^ r < 256 * 256 ^ r := by omega
  have h64 : 256 * 256 ^ r ≤ 18446744073709551616 := by
    have := Nat.mul_le_mul_left 256 hle
    exact Nat.le_trans this (by decide)
  refine ⟨?_, by omega⟩
  have es : shlI .u64 (c : Int) ((r : Int) * 8) = ((c * 256 ^ r : Nat) : Int) := by
    unfold shlI
    rw [IntKind.wrap_u64, show ((r : Int) * 8).toNat = 8 * r by omega, show min (8 * r) IntKind.u64.bits = 8 * r by show min (8 * r) 64 = 8 * r; omega]
    rw [show (2 : Int) ^ (8 * r) = ((256 ^ r : Nat) : Int) by rw [e8, Int.natCast_pow]; rfl, ← Int.natCast_mul]
    omega
  rw [es]
  have h := bits_or_u64_nat x (c * 256 ^ r) (by omega) (by omega)
  have e : x ||| c * 256 ^ r = x + c * 256 ^ r := by
    rw [Nat.or_comm, Nat.mul_comm, e8, ← Nat.two_pow_add_eq_or_of_lt (by rw [← e8]; exact hx), Nat.add_comm]
  rw [e] at h
  exact h
theorem word_put {m c i p r : Nat} (hm : m < 256 ^ i) (hc : c < 256) (hr : r < 8) (hi : i = 8 * p + r) (hp : p < 4) :
    (W.of m).part p < 256 ^ r ∧ (W.of (m + c * 256 ^ i)).cells = List.set (W.of m).cells p (.int .u64 (((W.of m).part p + c * 256 ^ r : Nat) : Int)) := by
  have h7 : (256 : Nat) ^ r ≤ 72057594037927936 := Nat.le_trans (Nat.pow_le_pow_right (by decide) (by omega : r ≤ 7)) (by decide)
  have hP : c * 256 ^ r ≤ 255 * 256 ^ r := Nat.mul_le_mul_right _ (by omega)
  have ei : (256 : Nat) ^ i = 256 ^ (8 * p) * 256 ^ r := by rw [hi, Nat.pow_add]
  have ec : c * 256 ^ i = 256 ^ (8 * p) * (c * 256 ^ r) := by rw [ei, Nat.mul_left_comm]
  rw [ei] at hm
  rw [ec]
  generalize c * 256 ^ r = P at *
  generalize (256 : Nat) ^ r = T at *
  have hpw : 256 ^ (8 * p) * T ≤ 256 ^ (8 * 3) * 72057594037927936 := Nat.mul_le_mul (Nat.pow_le_pow_right (by decide) (by omega)) h7
  have hpw2 : 256 ^ (8 * 3) * 72057594037927936 = 452312848583266388373324160190187140051835877600158453279131187530910662656 := by decide
  have hn : (W.of m).num = m := by rw [W.num_of, Nat.mod_eq_of_lt (by omega)]
  generalize W.of m = w at *
  have ha := w.ha; have hb := w.hb; have hcc := w.hc; have hd := w.hd
  have hw : w.num = w.a + 18446744073709551616 * (w.b + 18446744073709551616 * (w.c + 18446744073709551616 * w.d)) := rfl
  obtain rfl | rfl | rfl | rfl : p = 0 ∨ p = 1 ∨ p = 2 ∨ p = 3 := by omega
  · rw [show (256 : Nat) ^ (8 * 0) = 1 by decide] at *
    have hx : w.a < T := by omega
    refine ⟨hx, ?_⟩
    rw [show W.of (m + 1 * P) = ⟨w.a + P, w.b, w.c, w.d, by omega, hb, hcc, hd⟩ from (W.eq_of (by rw [Nat.mod_eq_of_lt (by omega)]; show w.a + P + 18446744073709551616 * (w.b + 18446744073709551616 * (w.c + 18446744073709551616 * w.d)) = _; omega)).symm]
    rfl
  · rw [show (256 : Nat) ^ (8 * 1) = 18446744073709551616 by decide] at *
    have hx : w.b < T := by omega
    refine ⟨hx, ?_⟩
    rw [show W.of (m + 18446744073709551616 * P) = ⟨w.a, w.b + P, w.c, w.d, ha, by omega, hcc, hd⟩ from (W.eq_of (by rw [Nat.mod_eq_of_lt (by omega)]; show w.a + 18446744073709551616 * (w.b + P + 18446744073709551616 * (w.c + 18446744073709551616 * w.d)) = _; omega)).symm]
    rfl
  · rw [show (256 : Nat) ^ (8 * 2) = 340282366920938463463374607431768211456 by decide] at *
    have hx : w.c < T := by omega
    refine ⟨hx, ?_⟩
    rw [show W.of (m + 340282366920938463463374607431768211456 * P) = ⟨w.a, w.b, w.c + P, w.d, ha, hb, by omega, hd⟩ from (W.eq_of (by rw [Nat.mod_eq_of_lt (by omega)]; show w.a + 18446744073709551616 * (w.b + 18446744073709551616 * (w.c + P + 18446744073709551616 * w.d)) = _; omega)).symm]
    rfl
  · rw [show (256 : Nat) ^ (8 * 3) = 6277101735386680763835789423207666416102355444464034512896 by decide] at *
    have hx : w.d < T := by omega
    refine ⟨hx, ?_⟩
    rw [show W.of (m + 6277101735386680763835789423207666416102355444464034512896 * P) = ⟨w.a, w.b, w.c, w.d + P, ha, hb, hcc, by omega⟩ from (W.eq_of (by rw [Nat.mod_eq_of_lt (by omega)]; show w.a + 18446744073709551616 * (w.b + 18446744073709551616 * (w.c + 18446744073709551616 * (w.d + P))) = _; omega)).symm]
    rfl
end Go.Ev
namespace Go.Proofs.YtolmipnaheifcaaDoor
open Go Go.Ev Go.Proofs
set_option maxRecDepth 100000
set_option maxHeartbeats 4000000
theorem wordFromBytes (b : ByteArray) (hlb : b.size < 1152921504606846976) : CallsV Tryd.prog 32 [.string b] [] (Ret0 (frombW b.data.toList).v) := by
  obtain ⟨l, rfl⟩ := bs_of b
  rw [bs_size] at hlb
  rw [bs_data]
  obtain ⟨R, hR⟩ : ∃ R, R = frombW l := ⟨_, rfl⟩
  rw [← hR]
  obtain ⟨rv, hrv⟩ : ∃ rv, rv = l.reverse.take 32 := ⟨_, rfl⟩
  have hrl : rv.length = min 32 l.length := by rw [hrv, List.length_take, List.length_reverse]
  have hRe : R = W.of (beN rv) := by rw [hR, frombW_eq, hrv]
  refine callsO (noG_ok _) Tryd.mix Tryd.pl32 Tryd.func32 rfl Tryd.ntmps32 Tryd.results32 rfl (by first | rfl | assumption) (Nat.le_of_ble_eq_true rfl) (by kernel_rfl) ?_
  simp only [push_cast, seval, reduceCtorEq]
  intro b2 b3 c3 hb3 hc3
  refine (last_ok b3 l.length c3 hc3 (by omega)).pure trivial ?_
  simp only [push_cast, seval, reduceCtorEq, hb3]
  obtain ⟨k, hk⟩ : ∃ k, k = l.length - 32 := ⟨_, rfl⟩
  obtain ⟨q, hq⟩ : ∃ q, q = l.length - k := ⟨_, rfl⟩
  have hdl : (l.drop k).length = q := by rw [List.length_drop, hq]
  have hrev : (l.drop k).reverse = rv := by
    rw [hrv, List.reverse_drop]
    rcases Nat.le_total l.length 32 with h | h
    · rw [List.take_of_length_le (by rw [List.length_reverse]; omega), List.take_of_length_le (by rw [List.length_reverse]; exact h)]
    · congr 1; omega
  have hbd : List.take q (List.drop k (byteV l)) = byteV (l.drop k) := by
    have e : List.drop k (byteV l) = byteV (l.drop k) := by unfold byteV; rw [List.map_drop]
    rw [e]; exact List.take_of_length_le (by rw [byteV_len, hdl]; exact Nat.le_refl _)
  have hkq : k + q ≤ l.length := by omega
  have hqr : rv.length = q := by omega
  rw [← hk, ← hq]
  refine (reversed_ok b3 k q (c3 - k) (l.drop k) hdl (by omega)).use ?_ ?_
  · simp only [push_cast, seval, reduceCtorEq, hb3, byteV_len, hdl, hbd, hkq]
  rw [hrev]
  rintro v N ⟨b5, c5, rfl, hc5, rfl⟩
  refine ⟨⟨trivial, trivial⟩, rfl, fun hf => ?_⟩
  simp only [push_cast, seval, reduceCtorEq] at hf
  simp only [push_cast, seval, reduceCtorEq, hb3, hf]
  refine loopO (noG_ok _) (pl := Tryd.pl32) Tryd.mix (X := Nat)
    (fun i => ([(2, .pointer (some ⟨b2, 0, none⟩)), (8, .slice (some ⟨b5, 0, none⟩) q c5), (9, .int .i64 q), (10, .int .i64 i)],
      [⟨b5, 0, .vec 5 1 c5, byteV rv⟩, ⟨b2, 0, .cel 39, [.int .u64 ((W.of (beN (rv.take i))).a : Nat), .int .u64 ((W.of (beN (rv.take i))).b : Nat), .int .u64 ((W.of (beN (rv.take i))).c : Nat), .int .u64 ((W.of (beN (rv.take i))).d : Nat)]⟩]))
    (fun i => i ≤ q) (fun i => q - i) 0 ?_ ?_ (by kernel_rfl) ?_
  · exact Nat.zero_le _
  · have h0 : W.of (beN (rv.take 0)) = W.zero := by
      refine W.num_inj ?_
      rw [W.num_of]; rfl
    rw [h0]
    simp only [push_cast, seval, reduceCtorEq, hb3, hf]
    rfl
  · intro i hi
    dsimp only at hi ⊢
    rcases Nat.lt_or_ge i q with hlt | hge
    · have i1 : (i : Int) < (q : Int) := by omega
      have i2 : i + 1 ≤ q := by omega
      have hil : i < rv.length := by omega
      have hat : List.take 1 (List.drop i (byteV rv)) = [.int .u8 ((rv[i]).toNat : Nat)] := by
        unfold byteV
        rw [← List.map_drop, ← List.map_take, List.drop_eq_getElem_cons hil, List.take_succ_cons, List.take_zero]; rfl
      have hx : (rv[i]).toNat < 256 := (rv[i]).toNat_lt
      have hbt := beN_take rv hil
      have hml := beN_take_lt rv (i := i) (by omega)
      obtain ⟨p, hp⟩ : ∃ p, p = i / 8 := ⟨_, rfl⟩
      obtain ⟨r, hr⟩ : ∃ r, r = i % 8 := ⟨_, rfl⟩
      have ep : (i : Int).tdiv 8 = (p : Int) := by rw [hp]; rfl
      have er : (i : Int).tmod 8 = (r : Int) := by rw [hr]; rfl
      have rn : ¬ (r : Int) * 8 < 0 := by omega
      obtain ⟨c, hc⟩ : ∃ c, c = (rv[i]).toNat := ⟨_, rfl⟩
      rw [← hc] at hat hx hbt
      obtain ⟨g1, g2⟩ := word_put (m := beN (rv.take i)) (c := c) (i := i) (p := p) (r := r) hml hx (by omega) (by omega) (by omega)
      rw [← hbt] at g2
      obtain ⟨g3, g4⟩ := or_shl (x := (W.of (beN (rv.take i))).part p) (c := c) (r := r) (by omega) g1 hx
      generalize W.of (beN (rv.take i)) = w at *
      obtain ⟨w', hw'⟩ : ∃ w', w' = W.of (beN (rv.take (i + 1))) := ⟨_, rfl⟩
      rw [← hw'] at g2
      generalize c * 256 ^ r = P at *
      obtain rfl | rfl | rfl | rfl : p = 0 ∨ p = 1 ∨ p = 2 ∨ p = 3 := by omega
      · replace g3 : bitsI .or .u64 (w.a : Int) (shlI .u64 (c : Int) ((r : Int) * 8)) = ((w.a + P : Nat) : Int) := g3
        simp only [push_cast, seval, reduceCtorEq, hb3, hf, i1, i2, byteV_len, hqr, hat, ep, er, rn, wrap_u64' (n := (c : Int)) (by omega), wrap_i64' (show -9223372036854775808 ≤ (r : Int) * 8 ∧ (r : Int) * 8 ≤ 9223372036854775807 by omega), g3, wrap_i64' (show -9223372036854775808 ≤ (i : Int) + 1 ∧ (i : Int) + 1 ≤ 9223372036854775807 by omega)]
        refine ⟨i + 1, i2, by omega, rfl, ?_⟩
        rw [← hw']
        show Ent.mk b2 0 (.cel 39) (List.set w.cells 0 (.int .u64 ((w.part 0 + P : Nat) : Int))) = Ent.mk b2 0 (.cel 39) w'.cells
        rw [g2]
      · replace g3 : bitsI .or .u64 (w.b : Int) (shlI .u64 (c : Int) ((r : Int) * 8)) = ((w.b + P : Nat) : Int) := g3
        simp only [push_cast, seval, reduceCtorEq, hb3, hf, i1, i2, byteV_len, hqr, hat, ep, er, rn, wrap_u64' (n := (c : Int)) (by omega), wrap_i64' (show -9223372036854775808 ≤ (r : Int) * 8 ∧ (r : Int) * 8 ≤ 9223372036854775807 by omega), g3, wrap_i64' (show -9223372036854775808 ≤ (i : Int) + 1 ∧ (i : Int) + 1 ≤ 9223372036854775807 by omega)]
        refine ⟨i + 1, i2, by omega, rfl, ?_⟩
        rw [← hw']
        show Ent.mk b2 0 (.cel 39) (List.set w.cells 1 (.int .u64 ((w.part 1 + P : Nat) : Int))) = Ent.mk b2 0 (.cel 39) w'.cells
        rw [g2]
      · replace g3 : bitsI .or .u64 (w.c : Int) (shlI .u64 (c : Int) ((r : Int) * 8)) = ((w.c + P : Nat) : Int) := g3
        simp only [push_cast, seval, reduceCtorEq, hb3, hf, i1, i2, byteV_len, hqr, hat, ep, er, rn, wrap_u64' (n := (c : Int)) (by omega), wrap_i64' (show -9223372036854775808 ≤ (r : Int) * 8 ∧ (r : Int) * 8 ≤ 9223372036854775807 by omega), g3, wrap_i64' (show -9223372036854775808 ≤ (i : Int) + 1 ∧ (i : Int) + 1 ≤ 9223372036854775807 by omega)]
        refine ⟨i + 1, i2, by omega, rfl, ?_⟩
        rw [← hw']
        show Ent.mk b2 0 (.cel 39) (List.set w.cells 2 (.int .u64 ((w.part 2 + P : Nat) : Int))) = Ent.mk b2 0 (.cel 39) w'.cells
        rw [g2]
      · replace g3 : bitsI .or .u64 (w.d : Int) (shlI .u64 (c : Int) ((r : Int) * 8)) = ((w.d + P : Nat) : Int) := g3
        simp only [push_cast, seval, reduceCtorEq, hb3, hf, i1, i2, byteV_len, hqr, hat, ep, er, rn, wrap_u64' (n := (c : Int)) (by omega), wrap_i64' (show -9223372036854775808 ≤ (r : Int) * 8 ∧ (r : Int) * 8 ≤ 9223372036854775807 by omega), g3, wrap_i64' (show -9223372036854775808 ≤ (i : Int) + 1 ∧ (i : Int) + 1 ≤ 9223372036854775807 by omega)]
        refine ⟨i + 1, i2, by omega, rfl, ?_⟩
        rw [← hw']
        show Ent.mk b2 0 (.cel 39) (List.set w.cells 3 (.int .u64 ((w.part 3 + P : Nat) : Int))) = Ent.mk b2 0 (.cel 39) w'.cells
        rw [g2]
    · obtain rfl : i = q := by omega
      have hRw : W.of (beN (rv.take i)) = R := by rw [hRe, List.take_of_length_le (by omega)]
      rw [hRw]
      simp only [push_cast, seval, reduceCtorEq, hb3, hf, Nat.lt_irrefl]
      rfl
end Go.Proofs.YtolmipnaheifcaaDoor
set_option linter.unusedSimpArgs false
set_option linter.unusedVariables false
namespace Go.Ev
noncomputable def szB : Nat → Bool := hid fun n => decide (n < 1099511627776)
theorem szB_in {n : Nat} (h : n < 1099511627776) : szB n = true := by unfold szB; rw [hid_eq, decide_eq_true h]
theorem szB_of {n : Nat} (h : szB n = true) : n < 1099511627776 := by unfold szB at h; rw [hid_eq, decide_eq_true_eq] at h; exact h
noncomputable def fromBG : List Value → Option Value
  | [.string b] => if szB b.size then some (frombW b.data.toList).v else none
  | _ => none
theorem ne10 : ((1 : Int) != 0) = true := rfl
theorem ne00 : ((0 : Int) != 0) = false := rfl
theorem eq10 : ((1 : Int) == 0) = false := rfl
theorem eq00 : ((0 : Int) == 0) = true := rfl
attribute [push_cast] fromBG ne10 ne00 eq10 eq00
end Go.Ev
namespace Go.Proofs.YtolmipnaheifcaaDoor
open Go Go.Ev Go.Proofs
set_option maxRecDepth 100000
set_option maxHeartbeats 4000000
theorem wordFromBytesG (args : List Value) (v : Value) (h : fromBG args = some v) : CallsV Tryd.prog 32 args [] (Ret0 v) := by
  unfold fromBG at h
  split at h
  · split at h
    · rename_i hs; cases h; exact wordFromBytes _ (Nat.lt_trans (szB_of hs) (by decide))
    · cases h
  · cases h
theorem refBytesG (args : List Value) (v : Value) (h : wbytesG args = some v) : CallsV Tryd.prog 37 args [] (Ret0 v) := by
  obtain ⟨x, rfl, rfl⟩ := wun_some (g := fun a => .string ⟨(wbytes a).toArray⟩) (by funext l; rfl) h
  exact refBytes x
end Go.Proofs.YtolmipnaheifcaaDoor
set_option linter.unusedSimpArgs false
set_option linter.unusedVariables false
namespace Go.Ev
def aheadD (i e a m : Nat) : Option Nat := if 16 ≤ i then some 13 else if 5000 ≤ m then some 2 else if e ≤ a then some 10 else none
theorem fromb_num {t : List UInt8} (h : t.length ≤ 8) : (frombW t).num = numN t := by
  have hl := numN_lt t
  have h3 : 256 ^ t.length ≤ 256 ^ 8 := Nat.pow_le_pow_right (by decide) h
  have h4 : (256 : Nat) ^ 8 = 18446744073709551616 := by decide
  rw [frombW_eq, List.take_of_length_le (by rw [List.length_reverse]; omega)]
  rw [W.num_of]
  exact Nat.mod_eq_of_lt (show numN t < _ by omega)
theorem nb_at {s : List UInt8} {a : Nat} (h : a < s.length) : (bs s).data[a]? = some (s.getD a 0) := by rw [getD_lt h]; exact nbs_idx h
end Go.Ev
namespace Go.Proofs.YtolmipnaheifcaaDoor
open Go Go.Ev Go.Proofs
set_option maxRecDepth 100000
set_option maxHeartbeats 4000000
def decE (b : Nat) (s : List UInt8) (a m : Nat) : Ent := ⟨b, 0, .cel 60, [.string (bs s), .int .i64 (a : Int), .int .i64 (m : Int)]⟩
def faE (b x p : Nat) : Ent := ⟨b, 0, .cel 66, [.int .i64 (x : Int), .int .i64 (p : Int)]⟩
def faV (b : Nat) : Value := .iface 62 (.pointer (some ⟨b, 0, none⟩))
def AheadK (bd : Nat) (s : List UInt8) (i e a m : Nat) : Value → Hp → Prop := fun v H' =>
  (aheadD i e a m = none ∧ v = .nilIface ∧ H' = [decE bd s a (m + 1)]) ∨ ∃ x b, aheadD i e a m = some x ∧ v = faV b ∧ H' = [faE b x a, decE bd s a m]
theorem isIf_error : isIf Tryd.prog 56 = true := by kernel_rfl
theorem isCon_fault : isCon Tryd.prog 62 = true := by kernel_rfl
theorem isCon_fault2 : isCon Tryd.prog 64 = true := by kernel_rfl
attribute [push_cast] isIf_error isCon_fault isCon_fault2
theorem ahead_ok {bd : Nat} {s : List UInt8} {i e a m : Nat} (hi : i ≤ 1099511627776) (he : e ≤ 1099511627776) (ha : a ≤ 1099511627776) (hm : m ≤ 1099511627776) :
    CallsV Tryd.prog 57 [.pointer (some ⟨bd, 0, none⟩), .int .i64 (e : Int), .int .i64 (i : Int)] [decE bd s a m]
      (AheadK bd s i e a m) := by
  unfold decE
  refine callsO gN3_ok Tryd.mix Tryd.pl57 Tryd.func57 rfl Tryd.ntmps57 Tryd.results57 rfl (by first | rfl | assumption) (Nat.le_of_ble_eq_true rfl) (by kernel_rfl) ?_
  by_cases c1 : 16 ≤ i
  · have d1 : (16 : Int) ≤ (i : Int) := by omega
    simp only [push_cast, seval, reduceCtorEq, d1]
    intro b hb
    exact ⟨_, .refl _, .inr ⟨13, b, by unfold aheadD; rw [if_pos c1], rfl, rfl⟩⟩
  have d1 : ¬ (16 : Int) ≤ (i : Int) := by omega
  by_cases c2 : 5000 ≤ m
  · have d2 : (5000 : Int) ≤ (m : Int) := by omega
    simp only [push_cast, seval, reduceCtorEq, d1, d2]
    intro b hb
    exact ⟨_, .refl _, .inr ⟨2, b, by unfold aheadD; rw [if_neg c1, if_pos c2], rfl, rfl⟩⟩
  have d2 : ¬ (5000 : Int) ≤ (m : Int) := by omega
  by_cases c3 : e ≤ a
  · have d3 : (e : Int) ≤ (a : Int) := by omega
    simp only [push_cast, seval, reduceCtorEq, d1, d2, d3]
    intro b hb
    exact ⟨_, .refl _, .inr ⟨10, b, by unfold aheadD; rw [if_neg c1, if_neg c2, if_pos c3], rfl, rfl⟩⟩
  · have d3 : ¬ (e : Int) ≤ (a : Int) := by omega
    simp only [push_cast, seval, reduceCtorEq, d1, d2, d3, wrap_i64' (show -9223372036854775808 ≤ (m : Int) + 1 ∧ (m : Int) + 1 ≤ 9223372036854775807 by omega)]
    exact ⟨_, .refl _, .inl ⟨by unfold aheadD; rw [if_neg c1, if_neg c2, if_neg c3], rfl, rfl⟩⟩
noncomputable def gO1 : Gam := (addG 74 intG (addG 32 fromBG gN3))
attribute [push_cast] gO1
theorem gO1_ok : GamOk Tryd.prog gO1 := (addG_ok wordIntG (addG_ok wordFromBytesG gN3_ok))
attribute [push_cast] gO1
def SizeK (bd : Nat) (s : List UInt8) (k e a m : Nat) : Value → Hp → Prop := fun v H' =>
  (∃ x p b a', sizeD s k e a = .bad x p ∧ v = .tuple #[.int .i64 0, faV b] ∧ H' = [faE b x p, decE bd s a' m]) ∨ ∃ n b z, sizeD s k e a = .ok n b z ∧ v = .tuple #[.int .i64 (n : Int), .nilIface] ∧ H' = [decE bd s b m]
theorem size_ok {bd : Nat} {s : List UInt8} {k e a m : Nat} (hk : k ≤ 192) (hs : s.length ≤ 1099511627776) (he : e ≤ s.length) (ha : a < e) (h1 : k ≤ (s.getD a 0).toNat) (h2 : (s.getD a 0).toNat < k + 64) :
    CallsV Tryd.prog 58 [.pointer (some ⟨bd, 0, none⟩), .int .i64 (k : Int), .int .i64 (e : Int)] [decE bd s a m] (SizeK bd s k e a m) := by
  have b0 := nb_at (s := s) (a := a) (by omega)
  obtain ⟨n, hn⟩ : ∃ n, n = (s.getD a 0).toNat - k := ⟨_, rfl⟩
  have w0 : IntKind.i64.wrap (((s.getD a 0).toNat : Int) - (k : Int)) = (n : Int) := by rw [show ((s.getD a 0).toNat : Int) - (k : Int) = (n : Int) by omega]; exact IntWalk.i64_in _ (by omega)
  obtain ⟨c, hc⟩ : ∃ c, c = s.getD a 0 := ⟨_, rfl⟩
  rw [← hc] at b0 w0
  have wc : IntKind.i64.wrap (c.toNat : Int) = (c.toNat : Int) := IntWalk.i64_in _ (by have := c.toNat_lt; omega)
  obtain ⟨p, hp⟩ : ∃ p, p = a + 1 := ⟨_, rfl⟩
  have wp : IntKind.i64.wrap ((a : Int) + 1) = (p : Int) := by rw [show (a : Int) + 1 = (p : Int) by omega]; exact IntWalk.i64_in _ (by omega)
  have hD : sizeD s k e a = if n ≤ 55 then (if e - p < n then .bad 10 a else .ok n p 0) else if e - p < n - 55 then .bad 10 a
    else if s.getD p 0 = 0 ∨ numN ((s.drop p).take (n - 55)) ≤ 55 then .bad 11 p
    else if e - (p + (n - 55)) < numN ((s.drop p).take (n - 55)) then .bad 10 a
    else .ok (numN ((s.drop p).take (n - 55))) (p + (n - 55)) 0 := by rw [hn, hp]; rfl
  have hal : a < s.length := by omega
  have hal' : (a : Int) < (s.length : Int) := by omega
  unfold decE
  refine callsO gO1_ok Tryd.mix Tryd.pl58 Tryd.func58 rfl Tryd.ntmps58 Tryd.results58 rfl (by first | rfl | assumption) (Nat.le_of_ble_eq_true rfl) (by kernel_rfl) ?_
  by_cases c1 : n ≤ 55
  · have d1 : ¬ (55 : Int) < (n : Int) := by omega
    by_cases c2 : e - p < n
    · have d2 : (e : Int) - (p : Int) < (n : Int) := by omega
      simp only [push_cast, seval, reduceCtorEq, hal, hal', b0, w0, wc, d1, d2, wp, wrap_i64' (show -9223372036854775808 ≤ (e : Int) - (p : Int) ∧ (e : Int) - (p : Int) ≤ 9223372036854775807 by omega)]
      intro b hb
      exact ⟨_, .refl _, .inl ⟨10, a, b, p, by rw [hD, if_pos c1, if_pos c2], rfl, rfl⟩⟩
    · have d2 : ¬ (e : Int) - (p : Int) < (n : Int) := by omega
      simp only [push_cast, seval, reduceCtorEq, hal, hal', b0, w0, wc, d1, d2, wp, wrap_i64' (show -9223372036854775808 ≤ (e : Int) - (p : Int) ∧ (e : Int) - (p : Int) ≤ 9223372036854775807 by omega)]
      exact ⟨_, .refl _, .inr ⟨n, p, 0, by rw [hD, if_pos c1, if_neg c2], rfl, rfl⟩⟩
  have d1 : (55 : Int) < (n : Int) := by omega
  obtain ⟨g, hg⟩ : ∃ g, g = n - 55 := ⟨_, rfl⟩
  have w2 : IntKind.i64.wrap ((n : Int) - 55) = (g : Int) := by rw [show (n : Int) - 55 = (g : Int) by omega]; exact IntWalk.i64_in _ (by omega)
  by_cases c2 : e - p < g
  · have d2 : (e : Int) - (p : Int) < (g : Int) := by omega
    simp only [push_cast, seval, reduceCtorEq, hal, hal', b0, w0, wc, d1, w2, d2, wp, wrap_i64' (show -9223372036854775808 ≤ (e : Int) - (p : Int) ∧ (e : Int) - (p : Int) ≤ 9223372036854775807 by omega)]
    intro b hb
    exact ⟨_, .refl _, .inl ⟨10, a, b, p, by rw [hD, ← hg, if_neg c1, if_pos c2], rfl, rfl⟩⟩
  have d2 : ¬ (e : Int) - (p : Int) < (g : Int) := by omega
  obtain ⟨q, hq⟩ : ∃ q, q = p + g := ⟨_, rfl⟩
  have wq : IntKind.i64.wrap ((p : Int) + (g : Int)) = (q : Int) := by rw [show (p : Int) + (g : Int) = (q : Int) by omega]; exact IntWalk.i64_in _ (by omega)
  have q1 : p ≤ q := by omega
  have q2 : q ≤ s.length := by omega
  have q3 : q - p = g := by omega
  have q1' : (p : Int) ≤ (q : Int) := by omega
  have q2' : (q : Int) ≤ (s.length : Int) := by omega
  obtain ⟨t, ht⟩ : ∃ t, t = (s.drop p).take g := ⟨_, rfl⟩
  have tl : t.length = g := by rw [ht, List.length_take, List.length_drop]; omega
  have fb := fromb_num (t := t) (by omega)
  have hsz : szB t.length = true := szB_in (by omega)
  have t0 : 0 < t.length := by omega
  have t0' : (0 : Int) < (t.length : Int) := by omega
  have tb0 : (bs t).data[0]? = some (s.getD p 0) := by
    rw [nbs_idx t0]
    have := subS_succ (s := s) (a := p) (g - 1) (by omega)
    unfold subS at this
    rw [show g - 1 + 1 = g by omega, ← ht] at this
    congr 1
    simp only [this, List.getElem_cons_zero]
  obtain ⟨v, hv⟩ : ∃ v, v = numN t := ⟨_, rfl⟩
  rw [← hv] at fb
  have wpl : IntKind.i64.wrap ((p : Int) + 1) = (p : Int) + 1 := IntWalk.i64_in _ (by omega)
  rw [← hg, ← ht, ← hv] at hD
  rw [if_neg c1, if_neg c2] at hD
  have wa1 : IntKind.i64.wrap ((a : Int) + 1) = (p : Int) := wp
  by_cases z : s.getD p 0 = 0
  · have e0 : (((s.getD p 0).toNat : Int) == 0) = true := by rw [z]; rfl
    rw [if_pos (.inl z)] at hD
    simp only [push_cast, seval, reduceCtorEq, hal, hal', b0, w0, wc, d1, w2, d2, wp, wq, q1, q2, q3, q1', q2', ← ht, wrap_i64' (show -9223372036854775808 ≤ (e : Int) - (p : Int) ∧ (e : Int) - (p : Int) ≤ 9223372036854775807 by omega), hsz, t0, t0', tb0, e0]
    intro b hb
    exact ⟨_, .refl _, .inl ⟨11, p, b, q, hD, rfl, rfl⟩⟩
  have e0 : (((s.getD p 0).toNat : Int) == 0) = false := beq_eq_false_iff_ne.2 fun h => z (UInt8.toNat_inj.1 (show (s.getD p 0).toNat = 0 by omega))
  by_cases ok : v ≤ 4611686018427387903
  · have hI : intW (frombW t) = ((v : Int), true) := by rw [intW_eq, fb, if_pos ok]
    by_cases c3 : v ≤ 55
    · have d3 : (v : Int) ≤ 55 := by omega
      rw [if_pos (.inr c3)] at hD
      simp only [push_cast, seval, reduceCtorEq, hal, hal', b0, w0, wc, d1, w2, d2, wp, wq, q1, q2, q3, q1', q2', ← ht, wrap_i64' (show -9223372036854775808 ≤ (e : Int) - (p : Int) ∧ (e : Int) - (p : Int) ≤ 9223372036854775807 by omega), hsz, t0, t0', tb0, e0, hI, d3]
      intro b hb
      exact ⟨_, .refl _, .inl ⟨11, p, b, q, hD, rfl, rfl⟩⟩
    have d3 : ¬ (v : Int) ≤ 55 := by omega
    rw [if_neg (fun h => h.elim z c3)] at hD
    by_cases c4 : e - (p + g) < v
    · have d4 : (e : Int) - (q : Int) < (v : Int) := by omega
      rw [if_pos c4] at hD
      simp only [push_cast, seval, reduceCtorEq, hal, hal', b0, w0, wc, d1, w2, d2, wp, wq, q1, q2, q3, q1', q2', ← ht, wrap_i64' (show -9223372036854775808 ≤ (e : Int) - (p : Int) ∧ (e : Int) - (p : Int) ≤ 9223372036854775807 by omega), wrap_i64' (show -9223372036854775808 ≤ (e : Int) - (q : Int) ∧ (e : Int) - (q : Int) ≤ 9223372036854775807 by omega), hsz, t0, t0', tb0, e0, hI, d3, d4]
      intro b hb
      exact ⟨_, .refl _, .inl ⟨10, a, b, q, hD, rfl, rfl⟩⟩
    · have d4 : ¬ (e : Int) - (q : Int) < (v : Int) := by omega
      rw [if_neg c4] at hD
      simp only [push_cast, seval, reduceCtorEq, hal, hal', b0, w0, wc, d1, w2, d2, wp, wq, q1, q2, q3, q1', q2', ← ht, wrap_i64' (show -9223372036854775808 ≤ (e : Int) - (p : Int) ∧ (e : Int) - (p : Int) ≤ 9223372036854775807 by omega), wrap_i64' (show -9223372036854775808 ≤ (e : Int) - (q : Int) ∧ (e : Int) - (q : Int) ≤ 9223372036854775807 by omega), hsz, t0, t0', tb0, e0, hI, d3, d4]
      exact ⟨_, .refl _, .inr ⟨v, p + g, 0, hD, rfl, by rw [← hq]; rfl⟩⟩
  · have hI : intW (frombW t) = (0, false) := by rw [intW_eq, fb, if_neg ok]
    have c3 : ¬ v ≤ 55 := by omega
    rw [if_neg (fun h => h.elim z c3), if_pos (by omega)] at hD
    simp only [push_cast, seval, reduceCtorEq, hal, hal', b0, w0, wc, d1, w2, d2, wp, wq, q1, q2, q3, q1', q2', ← ht, wrap_i64' (show -9223372036854775808 ≤ (e : Int) - (p : Int) ∧ (e : Int) - (p : Int) ≤ 9223372036854775807 by omega), wrap_i64' (show -9223372036854775808 ≤ (e : Int) - (q : Int) ∧ (e : Int) - (q : Int) ≤ 9223372036854775807 by omega), hsz, t0, t0', tb0, e0, hI]
    intro b hb
    exact ⟨_, .refl _, .inl ⟨10, a, b, q, hD, rfl, rfl⟩⟩
end Go.Proofs.YtolmipnaheifcaaDoor
