/- Ha: a word's text: plain law. -/
import Derived.Test.YtfioapldbajpmaaDoorSi
import Derived.Test.YtfioapldbajpmaaDoorSf
import Derived.Test.YtfioapldbajpmaaDoorSk
set_option linter.unusedSimpArgs false
set_option linter.unusedVariables false
namespace Go.Ev
/-- the digit of a number less than sixteen -/
def hexD (k : Nat) : UInt8 := if k < 10 then UInt8.ofNat (48 + k) else UInt8.ofNat (87 + k)
/-- two digits a byte -/
def hex2 : List UInt8 → List UInt8
  | [] => []
  | x :: r => hexD (x.toNat / 16) :: hexD (x.toNat % 16) :: hex2 r
theorem hex2_app : ∀ (a b : List UInt8), hex2 (a ++ b) = hex2 a ++ hex2 b
  | [], b => rfl
  | x :: r, b => by
    show _ :: _ :: hex2 (r ++ b) = _
    rw [hex2_app r b]; rfl
theorem hex2_len : ∀ (a : List UInt8), (hex2 a).length = 2 * a.length
  | [] => rfl
  | x :: r => by
    show (hex2 r).length + 1 + 1 = 2 * (r.length + 1)
    rw [hex2_len r]; omega
def strip (c : UInt8) : List UInt8 → List UInt8
  | [] => []
  | x :: r => if x = c then strip c r else x :: r
theorem strip_le (c : UInt8) : ∀ l, (strip c l).length ≤ l.length
  | [] => Nat.le_refl _
  | x :: r => by
    unfold strip
    split
    · exact Nat.le_trans (strip_le c r) (Nat.le_succ _)
    · exact Nat.le_refl _
def strip1 (c : UInt8) : List UInt8 → List UInt8
  | [] => []
  | [x] => [x]
  | x :: y :: r => if x = c then strip1 c (y :: r) else x :: y :: r
/-- a word's text -/
noncomputable def hexW : W → List UInt8 := hid fun w => 48 :: 120 :: (if strip 48 (hex2 (wbytes w)) = [] then [48] else strip 48 (hex2 (wbytes w)))
theorem hexW_eq (w : W) : hexW w = 48 :: 120 :: (if strip 48 (hex2 (wbytes w)) = [] then [48] else strip 48 (hex2 (wbytes w))) := by unfold hexW; rw [hid_eq]
theorem strip1_strip (c : UInt8) : ∀ l : List UInt8, l ≠ [] → strip1 c l = if strip c l = [] then [c] else strip c l
  | [], h => absurd rfl h
  | [x], _ => by
    unfold strip1 strip
    by_cases h : x = c
    · simp [h, strip]
    · simp [h]
  | x :: y :: r, _ => by
    unfold strip1 strip
    by_cases h : x = c
    · rw [if_pos h, if_pos h]; exact strip1_strip c (y :: r) (by simp)
    · rw [if_neg h, if_neg h, if_neg (by simp)]
theorem hexW_eq1 (w : W) : hexW w = 48 :: 120 :: strip1 48 (hex2 (wbytes w)) := by
  rw [hexW_eq, strip1_strip]
  intro h
  have := congrArg List.length h
  rw [hex2_len, wbytes_len] at this
  cases this
/-- a digit's number -/
def digV (base : Nat) (c : UInt8) : Option Nat :=
  if 48 ≤ c.toNat ∧ c.toNat ≤ 57 then some (c.toNat - 48) else if base = 16 ∧ 97 ≤ c.toNat ∧ c.toNat ≤ 102 then some (c.toNat - 87) else none
def valD (base : Nat) : List UInt8 → Nat → Option Nat
  | [], a => some a
  | c :: r, a => (digV base c).bind fun d => valD base r (a * base + d)
theorem valD_cons (base : Nat) (c : UInt8) (r : List UInt8) (a : Nat) : valD base (c :: r) a = (digV base c).bind fun d => valD base r (a * base + d) := rfl
theorem valD_ge {base : Nat} (hb : 1 ≤ base) : ∀ (r : List UInt8) (a n : Nat), valD base r a = some n → a ≤ n
  | [], a, n, h => by cases h; exact Nat.le_refl _
  | c :: r, a, n, h => by
    unfold valD at h
    cases hd : digV base c with
    | none => rw [hd] at h; cases h
    | some d =>
      rw [hd] at h
      have := valD_ge hb r _ _ h
      have h2 : a * 1 ≤ a * base := Nat.mul_le_mul_left a hb
      omega
theorem digV_lt {base : Nat} {c : UInt8} {d : Nat} (hb : base = 10 ∨ base = 16) (h : digV base c = some d) : d < base := by
  unfold digV at h
  split at h
  · cases h; omega
  · split at h
    · cases h; omega
    · cases h
theorem valD_app (base : Nat) : ∀ (l m : List UInt8) (a : Nat), valD base (l ++ m) a = (valD base l a).bind fun n => valD base m n
  | [], m, a => rfl
  | c :: r, m, a => by
    rw [List.cons_append, valD_cons, valD_cons]
    cases digV base c with
    | none => rfl
    | some d => exact valD_app base r m _
theorem valD_lt {base : Nat} (hb : base = 10 ∨ base = 16) : ∀ (l : List UInt8) (a n : Nat), valD base l a = some n → n < (a + 1) * base ^ l.length
  | [], a, n, h => by cases h; simp
  | c :: r, a, n, h => by
    unfold valD at h
    cases hd : digV base c with
    | none => rw [hd] at h; cases h
    | some d =>
      rw [hd] at h
      have h1 := valD_lt hb r _ _ h
      have h2 := digV_lt hb hd
      refine Nat.lt_of_lt_of_le h1 ?_
      rw [List.length_cons, Nat.pow_succ, Nat.mul_comm (base ^ r.length) base, ← Nat.mul_assoc]
      refine Nat.mul_le_mul_right _ ?_
      rw [Nat.add_mul, Nat.one_mul]; omega
/-- what is read from digits -/
noncomputable def parsB (base : Nat) (d : List UInt8) : W × Int :=
  if d = [] ∨ (d.head? = some 48 ∧ 1 < d.length) then (W.zero, 3) else
    match valD base d 0 with
    | none => (W.zero, 3)
    | some n => if n < 2 ^ 256 then (W.of n, 0) else (W.zero, 3)
noncomputable def parsW : List UInt8 → W × Int := hid fun l => if l.take 2 = [48, 120] then parsB 16 (l.drop 2) else parsB 10 l
theorem parsW_eq (l : List UInt8) : parsW l = if l.take 2 = [48, 120] then parsB 16 (l.drop 2) else parsB 10 l := by unfold parsW; rw [hid_eq]
theorem digV_hexD : ∀ k < 16, digV 16 (hexD k) = some k := by decide
theorem digV_0 (base : Nat) : digV base 48 = some 0 := by unfold digV; rfl
theorem hDigs (a b k : Nat) : (∀ i, i < k → digN a i = digN b i) → a % 256 ^ k = b % 256 ^ k := by
  induction k with
  | zero => intro _; simp [Nat.mod_one]
  | succ k ih =>
    intro h
    have h1 := ih fun i hi => h i (by omega)
    have h2 := h k (by omega)
    rw [digN_eq, digN_eq] at h2
    rw [Nat.pow_succ, Nat.mod_mul, Nat.mod_mul, h1, h2]
theorem hBeN_snoc : ∀ (r : List UInt8) (x : UInt8), beN (r ++ [x]) = beN r + 256 ^ r.length * x.toNat
  | [], x => by simp [beN]
  | y :: r, x => by
    have := hBeN_snoc r x
    show y.toNat + 256 * beN (r ++ [x]) = y.toNat + 256 * beN r + 256 ^ (r.length + 1) * x.toNat
    rw [this, Nat.mul_add, Nat.pow_succ, Nat.mul_comm (256 ^ r.length) 256, Nat.mul_assoc, Nat.add_assoc]
theorem hBeN_wbytes (w : W) : beN (wbytes w).reverse = w.num := by
  have hl : (wbytes w).reverse.length = 32 := by rw [List.length_reverse, wbytes_len]
  have hlt := beN_lt (wbytes w).reverse
  rw [hl] at hlt
  have hw := w.num_lt
  have hd : ∀ i, i < 32 → digN (beN (wbytes w).reverse) i = digN w.num i := fun i hi => by
    rw [digN_beN _ i (by omega)]
    have h1 : (wbytes w).reverse[i]? = some (UInt8.ofNat (digN w.num i)) := by
      rw [List.getElem?_reverse (by rw [wbytes_len]; exact hi), wbytes_len, wbytes_at w (by omega)]
      congr 3; omega
    rw [List.getElem?_eq_getElem (by omega)] at h1
    rw [Option.some.inj h1, ofNat_dig]
  have h := hDigs _ _ 32 hd
  rw [Nat.mod_eq_of_lt hlt, Nat.mod_eq_of_lt (Nat.lt_of_lt_of_le hw (by decide))] at h
  exact h
theorem valD_hex2 : ∀ (l : List UInt8) (a : Nat), valD 16 (hex2 l) a = some (a * 256 ^ l.length + beN l.reverse)
  | [], a => by simp [hex2, valD, beN]
  | x :: r, a => by
    have hx := x.toNat_lt
    show (digV 16 (hexD (x.toNat / 16))).bind (fun d => (digV 16 (hexD (x.toNat % 16))).bind fun e => valD 16 (hex2 r) ((a * 16 + d) * 16 + e)) = _
    rw [digV_hexD _ (by omega), digV_hexD _ (by omega)]
    show valD 16 (hex2 r) ((a * 16 + x.toNat / 16) * 16 + x.toNat % 16) = _
    rw [valD_hex2 r, show (a * 16 + x.toNat / 16) * 16 + x.toNat % 16 = a * 256 + x.toNat by omega, List.reverse_cons, hBeN_snoc, List.length_reverse, List.length_cons, Nat.pow_succ, Nat.add_mul, Nat.mul_comm (256 ^ r.length) 256, Nat.mul_assoc, Nat.mul_comm x.toNat]
    congr 1
    omega
theorem valD_strip (base : Nat) : ∀ l, valD base (strip 48 l) 0 = valD base l 0
  | [] => rfl
  | x :: r => by
    unfold strip
    by_cases h : x = 48
    · rw [if_pos h, valD_strip base r]
      show _ = (digV base x).bind fun d => valD base r (0 * base + d)
      rw [h, digV_0]
      show _ = valD base r (0 * base + 0)
      rw [Nat.zero_mul]
    · rw [if_neg h]
theorem strip_head {c : UInt8} : ∀ {l : List UInt8} {x : UInt8} {r : List UInt8}, strip c l = x :: r → x ≠ c
  | [], _, _, h => by cases h
  | y :: t, x, r, h => by
    unfold strip at h
    split at h
    · exact strip_head h
    · rename_i hn; cases h; exact hn
theorem valD_word (w : W) : valD 16 (hex2 (wbytes w)) 0 = some w.num := by rw [valD_hex2, hBeN_wbytes, Nat.zero_mul, Nat.zero_add]
/-- the digits of a word's text -/
noncomputable def hexT (w : W) : List UInt8 := if strip 48 (hex2 (wbytes w)) = [] then [48] else strip 48 (hex2 (wbytes w))
theorem hexT_val (w : W) : valD 16 (hexT w) 0 = some w.num := by
  have h := valD_word w
  rw [← valD_strip] at h
  unfold hexT
  split
  · rename_i h0
    rw [h0] at h
    exact (show valD 16 [48] 0 = valD 16 [] 0 by rfl).trans h
  · exact h
theorem hexT_ne (w : W) : hexT w ≠ [] := by
  unfold hexT
  split
  · simp
  · assumption
theorem hexT_head {w : W} {r : List UInt8} (h : hexT w = 48 :: r) : r = [] := by
  unfold hexT at h
  split at h
  · cases h; rfl
  · exact absurd rfl (strip_head h)
theorem W.lt256 (w : W) : w.num < 2 ^ 256 := W.num_lt w
theorem parse_hex (w : W) : parsW (hexW w) = (w, 0) := by
  have hc : ¬ (hexT w = [] ∨ ((hexT w).head? = some 48 ∧ 1 < (hexT w).length)) := by
    rintro (h | ⟨h1, h2⟩)
    · exact hexT_ne w h
    · cases ht : hexT w with
      | nil => rw [ht] at h1; cases h1
      | cons x r =>
        rw [ht] at h1 h2
        obtain rfl := Option.some.inj h1
        rw [hexT_head ht] at h2
        exact absurd h2 (Nat.lt_irrefl 1)
  rw [parsW_eq, hexW_eq, if_pos (show List.take 2 (48 :: 120 :: (if strip 48 (hex2 (wbytes w)) = [] then [48] else strip 48 (hex2 (wbytes w)))) = [48, 120] from rfl)]
  show parsB 16 (hexT w) = _
  unfold parsB
  rw [if_neg hc, hexT_val]
  dsimp only
  rw [if_pos (W.lt256 w), W.of_num]
theorem valD_low {base : Nat} : ∀ (r : List UInt8) (a n : Nat), valD base r a = some n → a * base ^ r.length ≤ n
  | [], a, n, h => by cases h; simp
  | c :: r, a, n, h => by
    unfold valD at h
    cases hd : digV base c with
    | none => rw [hd] at h; cases h
    | some d =>
      rw [hd] at h
      have h1 := valD_low r _ _ h
      refine Nat.le_trans ?_ h1
      rw [List.length_cons, Nat.pow_succ, Nat.mul_comm (base ^ r.length) base, ← Nat.mul_assoc]
      exact Nat.mul_le_mul_right _ (by omega)
theorem hexD_pos : ∀ k < 16, hexD k ≠ 48 → 0 < k := by decide
theorem strip_mem {c x : UInt8} : ∀ {l : List UInt8}, x ∈ strip c l → x ∈ l
  | [], h => h
  | y :: r, h => by
    unfold strip at h
    split at h
    · exact List.mem_cons_of_mem _ (strip_mem h)
    · exact h
theorem hexT_low {w : W} (h : 1 < (hexT w).length) : 16 ^ ((hexT w).length - 1) ≤ w.num := by
  have hv := hexT_val w
  cases ht : hexT w with
  | nil => rw [ht] at h; cases h
  | cons x r =>
    rw [ht] at hv h
    unfold valD at hv
    cases hd : digV 16 x with
    | none => rw [hd] at hv; cases hv
    | some d =>
      rw [hd] at hv
      have h1 := valD_low r _ _ hv
      have hx : x ≠ 48 := by
        intro hx
        rw [hx] at ht
        rw [hexT_head ht] at h
        exact absurd h (Nat.lt_irrefl 1)
      have d0 : 1 ≤ d := by
        rcases Nat.eq_zero_or_pos d with rfl | h0
        · exfalso
          unfold digV at hd
          split at hd
          · rename_i hh
            have hd := Option.some.inj hd
            exact hx (UInt8.toNat_inj.1 (show x.toNat = 48 by omega))
          · split at hd
            · have hd := Option.some.inj hd; omega
            · cases hd
        · exact h0
      show 16 ^ r.length ≤ w.num
      have h2 : 1 * 16 ^ r.length ≤ (0 * 16 + d) * 16 ^ r.length := Nat.mul_le_mul_right _ (by omega)
      omega
theorem hex_shorter {a b : W} (h : (hexW a).length < (hexW b).length) : a.num < b.num := by
  rw [hexW_eq, hexW_eq] at h
  have h' : (hexT a).length + 1 + 1 < (hexT b).length + 1 + 1 := h
  have hva := valD_lt (.inr rfl) _ _ _ (hexT_val a)
  have hla : 0 < (hexT a).length := List.length_pos_iff.2 (hexT_ne a)
  have hb := hexT_low (w := b) (by omega)
  have hp : 16 ^ (hexT a).length ≤ 16 ^ ((hexT b).length - 1) := Nat.pow_le_pow_right (by decide) (by omega)
  omega
/-- a number's digits -/
def decF : Nat → Nat → List UInt8
  | 0, n => [UInt8.ofNat (48 + n)]
  | k + 1, n => if n < 10 then [UInt8.ofNat (48 + n)] else decF k (n / 10) ++ [UInt8.ofNat (48 + n % 10)]
theorem digV_dec : ∀ d < 10, digV 10 (UInt8.ofNat (48 + d)) = some d := by decide
theorem dec_ne : ∀ d < 10, d ≠ 0 → UInt8.ofNat (48 + d) ≠ 48 := by decide
theorem decF_val : ∀ (k n : Nat), n < 10 ^ (k + 1) → valD 10 (decF k n) 0 = some n
  | 0, n, h => by
    show (digV 10 (UInt8.ofNat (48 + n))).bind (fun d => some (0 * 10 + d)) = _
    rw [digV_dec n (by omega)]
    simp
  | k + 1, n, h => by
    unfold decF
    split
    · rename_i h1
      show (digV 10 (UInt8.ofNat (48 + n))).bind (fun d => some (0 * 10 + d)) = _
      rw [digV_dec n (by omega)]
      simp
    · rw [valD_app, decF_val k (n / 10) (by rw [Nat.pow_succ] at h; omega)]
      show (digV 10 (UInt8.ofNat (48 + n % 10))).bind (fun d => some (n / 10 * 10 + d)) = _
      rw [digV_dec _ (by omega)]
      show some _ = _
      congr 1
      omega
theorem decF_head : ∀ (k n : Nat), n < 10 ^ (k + 1) → 0 < n → ∃ x r, decF k n = x :: r ∧ x ≠ 48
  | 0, n, h, h0 => ⟨_, _, rfl, dec_ne n (by omega) (by omega)⟩
  | k + 1, n, h, h0 => by
    unfold decF
    split
    · exact ⟨_, _, rfl, dec_ne n (by omega) (by omega)⟩
    · obtain ⟨x, r, hr, hx⟩ := decF_head k (n / 10) (by rw [Nat.pow_succ] at h; omega) (by omega)
      exact ⟨x, _, by rw [hr]; rfl, hx⟩
theorem decF_len (k n : Nat) : (decF k n).length ≤ k + 1 := by
  induction k generalizing n with
  | zero => exact Nat.le_refl _
  | succ k ih =>
    unfold decF
    split
    · show 1 ≤ _; omega
    · rw [List.length_append]; have := ih (n / 10); show _ + 1 ≤ _; omega
theorem parse_dec {k n : Nat} (h : n < 10 ^ (k + 1)) (h2 : n < 2 ^ 256) : parsW (bs (decF k n)).data.toList = (W.of n, 0) := by
  rw [bs_data]
  have hv := decF_val k n h
  have hc : ¬ (decF k n = [] ∨ ((decF k n).head? = some 48 ∧ 1 < (decF k n).length)) ∧ ¬ List.take 2 (decF k n) = [48, 120] := by
    rcases Nat.eq_zero_or_pos n with rfl | h0
    · have e : decF k 0 = [48] := by cases k <;> rfl
      rw [e]; decide
    · obtain ⟨x, r, hr, hx⟩ := decF_head k n h h0
      rw [hr]
      refine ⟨?_, ?_⟩
      · rintro (h | ⟨h1, _⟩)
        · cases h
        · exact hx (Option.some.inj h1)
      · intro h
        cases r <;> simp_all
  rw [parsW_eq, if_neg hc.2]
  unfold parsB
  rw [if_neg hc.1, hv]
  dsimp only
  rw [if_pos h2]
end Go.Ev
