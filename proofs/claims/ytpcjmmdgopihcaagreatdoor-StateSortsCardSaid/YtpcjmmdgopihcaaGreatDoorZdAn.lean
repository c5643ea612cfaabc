/- Texts of this claim, merged by program: Iq In Ir. -/
import Derived.Test.YtpcjmmdgopihcaaGreatDoorZdAm
import Derived.Test.YtpcjmmdgopihcaaGreatDoorZdAf
set_option linter.unusedSimpArgs false
set_option linter.unusedVariables false
namespace Go.Ev
theorem ad0_len (k : Nat) : (UInt8.ofNat k :: List.replicate 19 (0 : UInt8)).length = 20 := by simp
def ad0 (k : Nat) : Ad := ⟨UInt8.ofNat k :: List.replicate 19 0, ad0_len k⟩
theorem ad0_num {k : Nat} (h : k < 256) : (ad0 k).num = k * 256 ^ 19 := by
  unfold Ad.num ad0
  simp only [List.replicate, List.foldl_cons, List.foldl_nil, u8_nat h, UInt8.toNat_zero]
  omega
theorem ad0_lt {i k : Nat} (hi : i < 256) (hk : k < 256) (h : i < k) : (ad0 i).num < (ad0 k).num := by
  rw [ad0_num hi, ad0_num hk]
  exact Nat.mul_lt_mul_of_pos_right h (by decide)
theorem ad0_inj {i k : Nat} (hi : i < 256) (hk : k < 256) (h : ad0 i = ad0 k) : i = k := by
  have h1 := congrArg Ad.num h
  rw [ad0_num hi, ad0_num hk] at h1
  exact Nat.eq_of_mul_eq_mul_right (show (0 : Nat) < 256 ^ 19 by decide) h1
def ac0 (v : Int) (i : Nat) : Ac := ⟨ad0 i, W.zero, v, .empty, []⟩
theorem ac0_may {v : Int} (h0 : 0 ≤ v) (h1 : v ≤ 3) (i : Nat) : mayA (ac0 v i) = true := by
  unfold mayA ac0
  rw [rightB_iff.2 ⟨List.Pairwise.nil, fun x h => (by cases h), by simp⟩, decide_eq_true h0, decide_eq_true (show v ≤ 9007199254740992 by omega)]
  rfl
theorem ac0_empty (v : Int) (i : Nat) : emptyA (ac0 v i) = decide (v = 0) := by
  unfold emptyA ac0
  rw [decide_eq_true (show W.zero = W.zero from rfl)]
  show (true && (decide (v = 0) && (decide (ByteArray.empty.size = 0) && decide (([] : List Sl).length = 0)))) = _
  rw [decide_eq_true (show ByteArray.empty.size = 0 from rfl), decide_eq_true (show ([] : List Sl).length = 0 from rfl)]
  cases decide (v = 0) <;> rfl
def sortN (f : Nat → Int) : Nat → List Ac
  | 0 => []
  | n + 1 => sortN f n ++ (if f n = 0 then [] else [ac0 (f n) n])
def updF (f : Nat → Int) (k : Nat) (v : Int) : Nat → Int := fun j => if j = k then v else f j
theorem sortN_pre (f : Nat → Int) (n : Nat) : ∀ m, ∃ r, sortN f (n + m) = sortN f n ++ r
  | 0 => ⟨[], by simp⟩
  | m + 1 => by
    obtain ⟨r, hr⟩ := sortN_pre f n m
    exact ⟨r ++ (if f (n + m) = 0 then [] else [ac0 (f (n + m)) (n + m)]), by rw [← Nat.add_assoc, sortN, hr, List.append_assoc]⟩
theorem sortN_mem {f : Nat → Int} {x : Ac} : ∀ {n : Nat}, x ∈ sortN f n ↔ ∃ k, k < n ∧ f k ≠ 0 ∧ x = ac0 (f k) k
  | 0 => by simp [sortN]
  | n + 1 => by
    rw [sortN, List.mem_append, sortN_mem (n := n)]
    constructor
    · rintro (⟨k, h1, h2, h3⟩ | h)
      · exact ⟨k, by omega, h2, h3⟩
      · by_cases h0 : f n = 0
        · rw [if_pos h0] at h; cases h
        · rw [if_neg h0] at h; exact ⟨n, by omega, h0, List.mem_singleton.1 h⟩
    · rintro ⟨k, h1, h2, h3⟩
      by_cases hk : k = n
      · subst hk; rw [if_neg h2]; exact .inr (by rw [h3]; simp)
      · exact .inl ⟨k, by omega, h2, h3⟩
theorem sortN_srt (f : Nat → Int) : ∀ {n : Nat}, n ≤ 256 → (sortN f n).Pairwise fun x y => x.at_.num < y.at_.num
  | 0, _ => List.Pairwise.nil
  | n + 1, h => by
    rw [sortN, List.pairwise_append]
    refine ⟨sortN_srt f (by omega), by split <;> simp, fun x hx y hy => ?_⟩
    obtain ⟨k, h1, -, rfl⟩ := sortN_mem.1 hx
    by_cases h0 : f n = 0
    · rw [if_pos h0] at hy; cases hy
    · rw [if_neg h0] at hy
      rw [List.mem_singleton.1 hy]
      exact ad0_lt (show k < 256 by omega) (show n < 256 by omega) h1
theorem sortN_upd (f : Nat → Int) (k : Nat) (v : Int) : ∀ n, (sortN (updF f k v) n).length ≤ (sortN f n).length + (if k < n then 1 else 0)
  | 0 => by simp [sortN]
  | n + 1 => by
    have ih := sortN_upd f k v n
    rw [sortN, sortN, List.length_append, List.length_append]
    by_cases hk : k = n
    · subst hk
      rw [if_neg (Nat.lt_irrefl _)] at ih
      rw [if_pos (Nat.lt_succ_self _)]
      have : (if updF f k v k = 0 then [] else [ac0 (updF f k v k) k]).length ≤ 1 := by split <;> simp
      omega
    · have e : updF f k v n = f n := if_neg (fun h => hk h.symm)
      rw [e]
      by_cases h : k < n
      · rw [if_pos h] at ih; rw [if_pos (show k < n + 1 by omega)]; omega
      · rw [if_neg h] at ih; rw [if_neg (show ¬ k < n + 1 by omega)]; omega
structure OkF (f : Nat → Int) : Prop where
  lo : ∀ k, 0 ≤ f k
  hi : ∀ k, f k ≤ 3
theorem OkF.upd {f : Nat → Int} (h : OkF f) (k : Nat) {v : Int} (h0 : 0 ≤ v) (h1 : v ≤ 3) : OkF (updF f k v) :=
  ⟨fun j => by unfold updF; split; exact h0; exact h.lo j, fun j => by unfold updF; split; exact h1; exact h.hi j⟩
theorem sort_ri {f : Nat → Int} (h : OkF f) (hl : (sortN f 256).length ≤ 200) : RiS (sortN f 256) := by
  refine ⟨fun x hx => ?_, fun x hx => ?_, sortN_srt f (Nat.le_refl _), hl⟩
  · obtain ⟨k, -, -, rfl⟩ := sortN_mem.1 hx
    exact ac0_may (h.lo k) (h.hi k) k
  · obtain ⟨k, -, h2, rfl⟩ := sortN_mem.1 hx
    rw [ac0_empty]; exact decide_eq_false h2
theorem sort_find (f : Nat → Int) {k : Nat} (hk : k < 256) : findS (sortN f 256) (ad0 k) = ac0 (f k) k := by
  by_cases h0 : f k = 0
  · rw [findS_none, h0]
    · rfl
    · intro x hx e
      obtain ⟨j, hj, h2, rfl⟩ := sortN_mem.1 hx
      have := ad0_inj hj hk e
      subst this
      exact h2 h0
  · exact findS_some (sortN_srt f (Nat.le_refl _)) (x := ac0 (f k) k) (sortN_mem.2 ⟨k, hk, h0, rfl⟩)
theorem sort_findN (f : Nat → Int) {a : Ad} (h : ∀ k, k < 256 → a ≠ ad0 k) : findS (sortN f 256) a = emptyAt a :=
  findS_none fun x hx e => by
    obtain ⟨j, hj, -, rfl⟩ := sortN_mem.1 hx
    exact h j hj e.symm
theorem putS_len (s : List Ac) (x : Ac) : (putS s x).length ≤ s.length + 1 := by
  unfold putS
  rw [List.length_append, List.length_append]
  have h1 : (if emptyA x then [] else [x]).length ≤ 1 := by split <;> simp
  have h2 : ∀ l : List Ac, (l.filter fun y => decide (y.at_.num < x.at_.num)).length + (l.filter fun y => decide (x.at_.num < y.at_.num)).length ≤ l.length := by
    intro l
    induction l with
    | nil => simp
    | cons y r ih =>
      rw [List.filter_cons, List.filter_cons, List.length_cons]
      by_cases ha : y.at_.num < x.at_.num
      · rw [if_pos (decide_eq_true ha), if_neg (by rw [decide_eq_true_eq]; omega), List.length_cons]; omega
      · rw [if_neg (by rw [decide_eq_true_eq]; exact ha)]
        by_cases hb : x.at_.num < y.at_.num
        · rw [if_pos (decide_eq_true hb), List.length_cons]; omega
        · rw [if_neg (by rw [decide_eq_true_eq]; exact hb)]; omega
  have := h2 s
  omega
theorem sort_set {f : Nat → Int} (h : OkF f) {k : Nat} (hk : k < 256) {v : Int} (h0 : 0 ≤ v) (h1 : v ≤ 3) (hl : (sortN f 256).length ≤ 100) : setS (sortN f 256) (ac0 v k) = (sortN (updF f k v) 256, 0) := by
  have hr := sort_ri h (by omega)
  have hpl := putS_len (sortN f 256) (ac0 v k)
  have hul := sortN_upd f k v 256
  rw [if_pos hk] at hul
  have hr2 : RiS (putS (sortN f 256) (ac0 v k)) := hr.put (ac0_may h0 h1 k) (by omega)
  have hr3 := sort_ri (h.upd k h0 h1) (by omega)
  have hs : (setS (sortN f 256) (ac0 v k)).2 = 0 := setS_ok.2 ⟨rightS_iff.2 hr, ac0_may h0 h1 k, by omega⟩
  rw [setS_val hs]
  refine congrArg (fun z => (z, (0 : Int))) (RiS.ext hr2 hr3 fun a => ?_)
  rw [hr.find_put, show (ac0 v k).at_ = ad0 k from rfl]
  by_cases ha : ∃ j, j < 256 ∧ a = ad0 j
  · obtain ⟨j, hj, rfl⟩ := ha
    rw [sort_find _ hj, sort_find _ hj]
    by_cases hjk : j = k
    · subst hjk
      rw [if_pos rfl]
      show _ = ac0 (if j = j then v else f j) j
      rw [if_pos rfl]
    · rw [if_neg fun e => hjk (ad0_inj hj hk e)]
      show _ = ac0 (if j = k then v else f j) j
      rw [if_neg hjk]
  · have hn : ∀ j, j < 256 → a ≠ ad0 j := fun j hj e => ha ⟨j, hj, e⟩
    rw [sort_findN _ hn, sort_findN _ hn, if_neg (hn k hk)]
end Go.Ev
set_option linter.unusedSimpArgs false
set_option linter.unusedVariables false
namespace Go.Proofs.YtpcjmmdgopihcaaGreatDoor
open Go Go.Ev Go.Proofs
set_option maxRecDepth 100000
set_option maxHeartbeats 4000000
end Go.Proofs.YtpcjmmdgopihcaaGreatDoor
set_option linter.unusedSimpArgs false
set_option linter.unusedVariables false
namespace Go.Ev
def prV2 (x : Int × Int) : List Value := [.int .i64 x.1, .int .i64 x.2]
theorem prV2_len (x : Int × Int) : (prV2 x).length = 2 := rfl
theorem prC_flat (l : List (Int × Int)) : prC l = l.flatMap prV2 := by
  induction l with
  | nil => rfl
  | cons x r ih => rw [List.flatMap_cons, ← ih]; rfl
theorem PrR.li {H : Hp} {l : List (Int × Int)} {v : Value} (h : PrR H l v) : LiR prV2 2 H l v := by
  obtain ⟨p, c, rfl, h0 | ⟨b, o, rfl, h1⟩⟩ := h
  · exact ⟨p, c, rfl, .inl h0⟩
  · exact ⟨_, c, rfl, .inr ⟨b, o, rfl, by rw [h1, prC_flat]⟩⟩
theorem ac0_cells {k : Nat} (h : k < 256) (v : Int) : acC (ac0 v k, .slice none 0 0) = [.int .u8 k, .int .u8 0, .int .u8 0, .int .u8 0, .int .u8 0, .int .u8 0, .int .u8 0, .int .u8 0, .int .u8 0, .int .u8 0, .int .u8 0, .int .u8 0, .int .u8 0, .int .u8 0, .int .u8 0, .int .u8 0, .int .u8 0, .int .u8 0, .int .u8 0, .int .u8 0, .int .u64 0, .int .u64 0, .int .u64 0, .int .u64 0, .int .i64 v, .string .empty, .slice none 0 0] := by
  have : byteV (UInt8.ofNat k :: List.replicate 19 0) = .int .u8 k :: List.replicate 19 (.int .u8 0) := by
    unfold byteV
    simp only [List.map_cons, List.map_replicate, u8_nat h]
    rfl
  unfold acC Ac.cells ac0 Ad.cells ad0
  dsimp only
  rw [this]
  rfl
def boolC (f : Nat → Int) : List Value := (List.range 256).map fun k => .bool (decide (0 < f k))
theorem boolC_len (f : Nat → Int) : (boolC f).length = 256 := by unfold boolC; rw [List.length_map, List.length_range]
theorem boolC_zero : boolC (fun _ => 0) = List.replicate 256 (.bool false) := by
  unfold boolC
  refine List.ext_getElem (by rw [List.length_map, List.length_range, List.length_replicate]) fun i h1 h2 => ?_
  rw [List.getElem_map, List.getElem_replicate]; rfl
theorem boolC_at (f : Nat → Int) {k : Nat} (h : k < 256) : List.take 1 (List.drop k (boolC f)) = [.bool (decide (0 < f k))] := by
  rw [List.drop_eq_getElem_cons (by rw [boolC_len]; exact h)]
  unfold boolC
  rw [List.getElem_map, List.getElem_range]; rfl
theorem boolC_set (f : Nat → Int) {k : Nat} (h : k < 256) (v : Int) : List.take k (boolC f) ++ (.bool (decide (0 < v)) :: List.drop (k + 1) (boolC f)) = boolC (updF f k v) := by
  refine List.ext_getElem? fun i => ?_
  have hl := boolC_len f
  by_cases h1 : i < k
  · rw [List.getElem?_append_left (by rw [List.length_take, hl]; omega), List.getElem?_take, if_pos h1]
    unfold boolC
    rw [List.getElem?_map, List.getElem?_map, List.getElem?_range (by omega)]
    show some (Value.bool (decide (0 < f i))) = some (Value.bool (decide (0 < if i = k then v else f i)))
    rw [if_neg (by omega)]
  · rw [List.getElem?_append_right (by rw [List.length_take, hl]; omega), List.length_take, hl, Nat.min_eq_left (by omega)]
    by_cases h2 : i = k
    · subst h2
      rw [Nat.sub_self, List.getElem?_cons_zero]
      unfold boolC
      rw [List.getElem?_map, List.getElem?_range h]
      show _ = some (Value.bool (decide (0 < if i = i then v else f i)))
      rw [if_pos rfl]
    · obtain ⟨d, hd⟩ : ∃ d, i - k = d + 1 := ⟨i - k - 1, by omega⟩
      rw [hd, List.getElem?_cons_succ, List.getElem?_drop, show k + 1 + d = i by omega]
      unfold boolC
      rw [List.getElem?_map, List.getElem?_map]
      by_cases h3 : i < 256
      · rw [List.getElem?_range h3]
        show some (Value.bool (decide (0 < f i))) = some (Value.bool (decide (0 < if i = k then v else f i)))
        rw [if_neg h2]
      · rw [List.getElem?_eq_none (show (List.range 256).length ≤ i by rw [List.length_range]; omega)]; rfl
end Go.Ev
namespace Go.Proofs.YtpcjmmdgopihcaaGreatDoor
open Go Go.Ev Go.Proofs
set_option maxRecDepth 100000
set_option maxHeartbeats 4000000
attribute [-push_cast] evAppend_nil evAppend_some slAddr
theorem stateSorts_ok {M : Hp} {l : List (Int × Int)} {v : Value} (hk : KonR M) (hm : marksOf M = []) (hv : LiR prV2 2 M l v) (hb : ∀ x ∈ l, i64In x.1 ∧ i64In x.2) : CallsV Tryz.prog 7 [v] M (Ret0 (.bool true)) := by
  have j256 : i64In 256 := by decide
  have j3 : i64In 3 := by decide
  obtain ⟨p, k, rfl, hla⟩ := LiR.openC prV2_len (by decide) hv
  refine callsO gV2_ok Tryz.mix Tryz.pl7 Tryz.func7 rfl Tryz.ntmps7 Tryz.results7 rfl (by first | rfl | assumption) (Nat.le_of_ble_eq_true rfl) (by kernel_rfl) ?_
  simp only [push_cast, seval, reduceCtorEq]
  refine useP [] (awk08_P hk) trivial ?_
  have z62 : zeroL Tryz.prog 62 = some (boolC fun _ => 0) := by rw [boolC_zero]; kernel_rfl
  simp only [push_cast, seval, reduceCtorEq, z62]
  intro b5 hb5
  refine loopO gV2_ok (pl := Tryz.pl7) Tryz.mix (X := {x : ((Nat × (Nat → Int)) × Value) × Hp // Gr M x.2 ∧ fresh b5 x.2})
    (fun x => ([(0, .slice p l.length k), (3, .bool true), (4, x.1.1.2), (5, .pointer (some ⟨b5, 0, none⟩)), (6, .int .i64 x.1.1.1.1)], ⟨b5, 0, .cel 62, boolC x.1.1.1.2⟩ :: x.1.2))
    (fun x => x.1.1.1.1 ≤ l.length ∧ x.1.1.1.1 ≤ 30 ∧ OkF x.1.1.1.2 ∧ (sortN x.1.1.1.2 256).length ≤ x.1.1.1.1 ∧ StR (sortN x.1.1.1.2 256) x.1.1.2 x.1.2) (fun x => l.length - x.1.1.1.1) ⟨(((0, fun _ => 0), .slice none 0 0), M), Gr.refl hm, hb5⟩ ?_ ?_ (by kernel_rfl) ?_
  · have hz : sortN (fun _ => 0) 256 = [] := by decide
    exact ⟨Nat.zero_le _, Nat.zero_le _, ⟨fun _ => by simp, fun _ => by simp⟩, by dsimp only; rw [hz]; exact Nat.le_refl _, by dsimp only; rw [hz]; exact StR.nil _ _⟩
  · simp only [push_cast, seval, reduceCtorEq]
  · rintro ⟨⟨⟨⟨i, f⟩, w⟩, M1⟩, hg1, f5⟩ ⟨hi, h30, hf, hl, hw⟩
    dsimp only at hi h30 hf hl hw hg1 f5 ⊢
    have e3 : -9223372036854775808 ≤ (i : Int) + 1 ∧ (i : Int) + 1 ≤ 9223372036854775807 := by omega
    by_cases hc : i < l.length ∧ i < 30
    · obtain ⟨hlt, hl30⟩ := hc
      obtain ⟨r, hr'⟩ : ∃ r, l[i]? = some r := ⟨l[i], List.getElem?_eq_getElem hlt⟩
      obtain ⟨ia, ib⟩ := hb r (List.mem_of_getElem? hr')
      rcases hla with hl0 | ⟨b, fo, d, kd, cs, rfl, hfe, hat⟩
      · rw [hl0] at hr'; simp at hr'
      obtain ⟨a1, a2⟩ := hat i r hr'
      have a3 : List.take 1 (List.drop (d + i * 2) cs) = [.int .i64 r.1] := by
        have := congrArg (List.take 1) a2
        rwa [List.take_take] at this
      have a4 : List.take 1 (List.drop (d + i * 2 + 1) cs) = [.int .i64 r.2] := by
        have := congrArg (fun q => List.take 1 (List.drop 1 q)) a2
        rw [List.drop_take, List.take_take, List.drop_drop] at this
        exact this
      have a5 : d + i * 2 + 1 ≤ cs.length := by omega
      have a6 : d + i * 2 + 1 + 1 ≤ cs.length := by omega
      have o2 : fo + d + i * 2 + 1 - fo = d + i * 2 + 1 := by omega
      have o1 : fo ≤ fo + d + i * 2 + 1 := by omega
      have hee := hg1.find hfe
      have m5 := (fresh_findS f5 hee).2
      have i1 : (i : Int) < (l.length : Int) := by omega
      have i2 : (i : Int) < 30 := by omega
      have pk := pickN_lt r.1 (show (0 : Int) < 256 by decide)
      have pv := pickN_lt r.2 (show (0 : Int) < 3 by decide)
      obtain ⟨x, hx⟩ : ∃ x, x = pickN r.1 256 := ⟨_, rfl⟩
      obtain ⟨y, hy⟩ : ∃ y, y = pickN r.2 3 := ⟨_, rfl⟩
      rw [← hx] at pk
      rw [← hy] at pv
      have pk' : x < 256 := by omega
      have pv' : y < 3 := by omega
      have x8 : IntKind.u8.wrap (x : Int) = (x : Int) := wrap_u8' (by omega)
      have y0 : (0 : Int) ≤ (y : Int) := by omega
      have y3 : (y : Int) ≤ 3 := by omega
      simp only [push_cast, seval, reduceCtorEq, i1, i2, hlt, hl30, hee, a3, a4, a5, a6, ia, ib, j256, j3, ← hx, ← hy, m5, x8, o1, o2, ← ac0_cells pk' (y : Int)]
      intro b8 hb8
      have al : (acC (ac0 (y : Int) x, Value.slice none 0 0)).all oneC = true := Ac.all1 _ _ rfl
      have ll := acC_len (ac0 (y : Int) x, Value.slice none 0 0)
      have gn : List.take 1 (List.drop 24 (acC (ac0 (y : Int) x, Value.slice none 0 0))) = [.int .i64 (y : Int)] := (Ac.get (ac0 (y : Int) x) (.slice none 0 0)).2.2.1
      have lt27 : List.take 27 (acC (ac0 (y : Int) x, Value.slice none 0 0)) = acC (ac0 (y : Int) x, Value.slice none 0 0) := List.take_of_length_le (Nat.le_of_eq ll)
      simp only [push_cast, seval, reduceCtorEq, hb8, al, ll, lt27]
      have f8 : fresh b8 M1 := hb8.2.2
      have hrs := sort_ri hf (by omega)
      refine useL [_, _] (sset_R (x := ac0 (y : Int) x) hw (LiR.nil _ 0) (by omega)) (SetR.rd _) hg1.marks ⟨f8, f5, trivial⟩ fun w2 M2 hg2 hL2 hq2 => ?_
      rw [sort_set hf pk' y0 y3 (by omega)] at hq2
      obtain ⟨u, rfl, hu⟩ := hq2
      have hu : StR (sortN (updF f x y) 256) u M2 := hu
      obtain ⟨pu, ku, rfl⟩ := hu.slice
      obtain ⟨f8, f5, -⟩ := id hL2
      have xi : (x : Int) < 256 := by omega
      have bl := boolC_len f
      have bs := boolC_set f pk' (y : Int)
      have bs : List.take x (boolC f) ++ .bool (decide (0 < y)) :: List.drop (x + 1) (boolC f) = boolC (updF f x (y : Int)) := by
        rw [← bs, show decide (0 < y) = decide (0 < (y : Int)) from decide_eq_decide.2 (by omega)]
      have x255 : x ≤ 255 := by omega
      have hup := sortN_upd f x (y : Int) 256
      rw [if_pos pk'] at hup
      simp only [push_cast, seval, reduceCtorEq, hb8, ll, gn, xi, pk', bl, bs, x255, wrap_i64' e3]
      exact ⟨⟨(((i + 1, updF f x (y : Int)), _), M2), hg1.trans hg2, f5⟩, ⟨by dsimp only; omega, by dsimp only; omega, hf.upd x y0 y3, by dsimp only; omega, hu⟩, by dsimp only; omega, ⟨rfl, rfl⟩, ⟨rfl, subH_cons f8⟩, rfl⟩
    · obtain ⟨n, hn⟩ : ∃ n, (sortN f 256).length = n := ⟨_, rfl⟩
      obtain ⟨L, hL, hLi, hLs⟩ := id hw
      have hLl : L.length = n := by rw [← hn, ← hL, List.length_map]
      obtain ⟨q, c, rfl, hqa⟩ := hLi.openA
      rw [hLl] at hw ⊢
      rcases Nat.lt_or_ge i l.length with hlt | hge
      case' inl =>
        have i1 : (i : Int) < (l.length : Int) := by omega
        have i2 : ¬ (i : Int) < 30 := by omega
        have i3 : ¬ i < 30 := by omega
        simp only [push_cast, seval, reduceCtorEq, i1, i2, i3, hlt]
      case' inr =>
        have i1 : ¬ (i : Int) < (l.length : Int) := by omega
        have i3 : ¬ i < l.length := by omega
        simp only [push_cast, seval, reduceCtorEq, i1, i3]
      all_goals
        refine loopO gV2_ok (pl := Tryz.pl7) Tryz.mix (X := Nat)
          (fun k => ([(3, .bool true), (4, .slice q n c), (5, .pointer (some ⟨b5, 0, none⟩)), (11, .int .i64 (sortN f k).length), (12, .int .i64 k)], ⟨b5, 0, .cel 62, boolC f⟩ :: M1))
          (fun k => k ≤ 256) (fun k => 256 - k) 0 (Nat.zero_le _) ?_ (by kernel_rfl) ?_
        · simp only [push_cast, seval, reduceCtorEq]
          first | done | exact rfl | exact ⟨rfl, subH_self _⟩ | exact subH_self _
        · intro k hk
          dsimp only at hk ⊢
          rcases Nat.lt_or_ge k 256 with hk' | hk'
          · have k1 : (k : Int) < 256 := by omega
            have k2 : k ≤ 255 := by omega
            have bl := boolC_len f
            have ba := boolC_at f hk'
            obtain ⟨r, hr⟩ := sortN_pre f (k + 1) (255 - k)
            rw [show k + 1 + (255 - k) = 256 by omega] at hr
            have hrl := congrArg List.length hr
            rw [List.length_append, hn] at hrl
            by_cases hf0 : f k = 0
            · have hs1 : sortN f (k + 1) = sortN f k := by rw [sortN, if_pos hf0, List.append_nil]
              have d0 : decide (0 < f k) = false := by rw [hf0]; rfl
              simp only [push_cast, seval, reduceCtorEq, k1, k2, hk', bl, ba, d0, wrap_i64' (show -9223372036854775808 ≤ (k : Int) + 1 ∧ (k : Int) + 1 ≤ 9223372036854775807 by omega)]
              exact ⟨k + 1, hk', by omega, by rw [hs1]; exact ⟨rfl, rfl⟩⟩
            · have hs1 : sortN f (k + 1) = sortN f k ++ [ac0 (f k) k] := by rw [sortN, if_neg hf0]
              have d0 : decide (0 < f k) = true := decide_eq_true (by have := hf.lo k; omega)
              obtain ⟨at_, hat_⟩ : ∃ a, a = (sortN f k).length := ⟨_, rfl⟩
              have hs2 : (sortN f (k + 1)).length = at_ + 1 := by rw [hs1, List.length_append, ← hat_]; rfl
              rw [hs2] at hrl
              have t1 : ¬ (n : Int) ≤ (at_ : Int) := by omega
              have t2 : ¬ n ≤ at_ := by omega
              have t3 : (at_ : Int) < (n : Int) := by omega
              have t4 : at_ < n := by omega
              have hge' : (sortN f 256)[at_]? = some (ac0 (f k) k) := by
                rw [hr, hs1, List.getElem?_append_left (by rw [List.length_append, ← hat_, List.length_singleton]; omega), hat_, List.getElem?_append_right (Nat.le_refl _), Nat.sub_self]; rfl
              obtain ⟨x, hx, hx1⟩ : ∃ x, L[at_]? = some x ∧ x.1 = ac0 (f k) k := by
                rw [← hL, List.getElem?_map] at hge'
                obtain ⟨x, h1, h2⟩ := Option.map_eq_some_iff.1 hge'
                exact ⟨x, h1, h2⟩
              rcases hqa with rfl | ⟨b, fo, d, kd, cs, rfl, hfe, hat⟩
              · simp at hx
              obtain ⟨h1, h2, h3⟩ := hat at_ x hx
              obtain ⟨v1, v2⟩ := h1 0 1 (by decide)
              have v3 : List.take 1 (List.drop 0 (acC x)) = [.int .u8 k] := by
                obtain ⟨y, sv⟩ := x
                dsimp only at hx1
                subst hx1
                show List.take 1 (byteV (UInt8.ofNat k :: List.replicate 19 0) ++ _) = _
                show [Value.int .u8 (UInt8.ofNat k).toNat] = _
                rw [u8_nat hk']
              rw [v3] at v2
              rw [Nat.add_zero] at v1 v2
              have m5 := (fresh_findS f5 hfe).2
              have o1 : fo ≤ fo + d + at_ * 27 := by omega
              have o2 : fo + d + at_ * 27 - fo = d + at_ * 27 := by omega
              have w8 : IntKind.u8.wrap (k : Int) = (k : Int) := wrap_u8' (by omega)
              simp only [push_cast, seval, reduceCtorEq, k1, k2, hk', bl, ba, d0, ← hat_, t1, t2, t3, t4, m5, hfe, o1, o2, v1, v2, w8, bne_self_eq_false, wrap_i64' (show -9223372036854775808 ≤ (k : Int) + 1 ∧ (k : Int) + 1 ≤ 9223372036854775807 by omega), wrap_i64' (show -9223372036854775808 ≤ (at_ : Int) + 1 ∧ (at_ : Int) + 1 ≤ 9223372036854775807 by omega)]
              exact ⟨k + 1, hk', by omega, by rw [hs2]; rfl, rfl⟩
          · obtain rfl : k = 256 := by omega
            simp only [push_cast, seval, reduceCtorEq, hn, Int.lt_irrefl, Nat.lt_irrefl]
            refine useP [_] (sright_P hw (sort_ri hf (by omega))) ⟨f5, trivial⟩ ?_
            simp only [push_cast, seval, reduceCtorEq, hn]
end Go.Proofs.YtpcjmmdgopihcaaGreatDoor
