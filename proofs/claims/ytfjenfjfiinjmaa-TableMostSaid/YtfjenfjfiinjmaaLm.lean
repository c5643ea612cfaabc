/- Lm: TableMost: the walk, and the plain law. -/
import Derived.Test.YtfjenfjfiinjmaaLb
set_option linter.unusedSimpArgs false
set_option linter.unusedVariables false
namespace Go.Ev
theorem mergeL_nil : ∀ {l : List Sl}, NoZ l → mergeL l [] = l
  | [], _ => by simp [mergeL, joinS]
  | x :: r, h => by
    have h0 : ¬ x.val = W.zero := h x (by simp)
    have ih := mergeL_nil (l := r) fun y hy => h y (by simp [hy])
    unfold mergeL at ih ⊢
    rw [joinS, List.filterMap_cons_some (b := x) (by simp [pickM, h0]), ih]
theorem merge_one_len (k w : W) : ∀ {l : List Sl}, Srt l → NoZ l → (mergeL l [⟨k, w⟩]).length + (if (lk l k).isSome then 1 else 0) = l.length + (if w = W.zero then 0 else 1)
  | [], _, _ => by
    by_cases hw : w = W.zero <;> simp [mergeL, joinS, pickM, hw, lk_nil]
  | x :: r, hs, hz => by
    obtain ⟨h1, h2⟩ := List.pairwise_cons.1 hs
    have hx0 : ¬ x.val = W.zero := hz x (by simp)
    have hzr : NoZ r := fun y hy => hz y (by simp [hy])
    have ih := merge_one_len k w h2 hzr
    have hnil := mergeL_nil (l := x :: r) hz
    have hnilr := mergeL_nil (l := r) hzr
    unfold mergeL at ih hnil hnilr ⊢
    rw [joinS]
    dsimp only
    split
    · rename_i hlt
      have hne : ¬ x.key = k := fun e => by rw [e] at hlt; omega
      rw [List.filterMap_cons_some (b := x) (by simp [pickM, hx0]), lk_cons, if_neg hne]
      simp only [List.length_cons]
      omega
    · split
      · rename_i hlt
        rw [lk_lt (l := x :: r) (k := k) fun z hz => by
          rcases List.mem_cons.1 hz with rfl | hz
          · exact hlt
          · exact Nat.lt_trans hlt (h1 z hz)]
        by_cases hw : w = W.zero
        · rw [List.filterMap_cons_none (by simp [pickM, hw]), hnil]; simp [hw]
        · rw [List.filterMap_cons_some (b := ⟨k, w⟩) (by simp [pickM, hw]), List.length_cons, hnil]; simp [hw]
      · rename_i n1 n2
        have he : x.key = k := W.num_inj (by omega)
        rw [lk_cons, if_pos he]
        by_cases hw : w = W.zero
        · rw [List.filterMap_cons_none (by simp [pickM, hw]), hnilr]; simp [hw]
        · rw [List.filterMap_cons_some (b := ⟨k, w⟩) (by simp [pickM, hw]), List.length_cons, hnilr]; simp [hw]
theorem ofNat_num {k : Nat} (h : k < 18446744073709551616) : (W.ofInt (k : Int)).num = k := by
  unfold W.ofInt W.num
  rw [if_pos (Int.natCast_nonneg k)]
  simp only [Int.toNat_natCast]
  omega
theorem ofNat_inj {k m : Nat} (hk : k < 18446744073709551616) (hm : m < 18446744073709551616) : W.ofInt (k : Int) = W.ofInt (m : Int) ↔ k = m := by
  constructor
  · intro h
    have := congrArg W.num h
    rwa [ofNat_num hk, ofNat_num hm] at this
  · rintro rfl; rfl
def mkL (n : Nat) : List Sl := (List.range n).map fun i => ⟨W.ofInt ((2 * i : Nat) : Int), W.ofInt 1⟩
theorem mkL_succ (n : Nat) : mkL (n + 1) = mkL n ++ [⟨W.ofInt ((2 * n : Nat) : Int), W.ofInt 1⟩] := by
  unfold mkL; rw [List.range_succ, List.map_append]; rfl
theorem mkL_len (n : Nat) : (mkL n).length = n := by simp [mkL]
theorem mkL_srt {n : Nat} (hn : n ≤ 4000) : Srt (mkL n) := by
  unfold mkL Srt
  rw [List.pairwise_map]
  refine List.Pairwise.imp_of_mem ?_ (List.pairwise_lt_range (n := n))
  intro i j hi hj hij
  rw [List.mem_range] at hi hj
  dsimp only
  rw [ofNat_num (by omega), ofNat_num (by omega)]
  omega
theorem mkL_noz (n : Nat) : NoZ (mkL n) := fun x hx e => by
  obtain ⟨i, _, rfl⟩ := List.mem_map.1 hx
  have h0 : ¬ W.ofInt 1 = W.zero := by decide
  exact h0 e
theorem mkL_lk {n k : Nat} (hn : n ≤ 4000) (hk : k ≤ 4000) : (lk (mkL n) (W.ofInt (k : Int))).isSome = decide (k % 2 = 0 ∧ k / 2 < n) := by
  by_cases h : k % 2 = 0 ∧ k / 2 < n
  · have hm : (⟨W.ofInt (k : Int), W.ofInt 1⟩ : Sl) ∈ mkL n := by
      refine List.mem_map.2 ⟨k / 2, List.mem_range.2 h.2, ?_⟩
      rw [show 2 * (k / 2) = k by omega]
    rw [lk_of_mem (mkL_srt hn) hm]
    simp [h]
  · rw [lk_none]
    · simp [h]
    · intro x hx e
      obtain ⟨i, hi, rfl⟩ := List.mem_map.1 hx
      rw [List.mem_range] at hi
      have := (ofNat_inj (by omega) (by omega)).1 e
      exact h ⟨by omega, by omega⟩
theorem mkL_ri {n : Nat} (hn : n ≤ 1000) : Ri (mkL n) := ⟨mkL_srt (by omega), mkL_noz n, by rw [mkL_len]; exact hn⟩
end Go.Ev
namespace Go.Proofs.Ytfjenfjfiinjmaa
open Go Go.Ev Go.Proofs
set_option maxRecDepth 100000
set_option maxHeartbeats 4000000
def plM : Plans := fun i => if i = 17 then [(0, 9)] else []
attribute [push_cast] plM
theorem tableMost_ok {H : Hp} {less key value : Int} (hm : marksOf H = []) (h1 : i64In less) (h2 : i64In key) (h3 : i64In value) :
    CallsV Try.prog 6 [.int .i64 less, .int .i64 key, .int .i64 value] H (Ret0 (.bool true)) := by
  have p4 := pickN_lt less (n := 4) (by omega)
  have pk := pickN_lt key (n := 2200) (by omega)
  have p3 := pickN_lt value (n := 3) (by omega)
  have i4 : i64In 4 := by decide
  have ik : i64In 2200 := by decide
  have i3 : i64In 3 := by decide
  obtain ⟨n, hn⟩ : ∃ n : Nat, n = 998 + pickN less 4 := ⟨_, rfl⟩
  have en : (998 : Int) + (pickN less 4 : Int) = (n : Int) := by omega
  have hn1 : n ≤ 1001 := by omega
  have hn0 : 998 ≤ n := by omega
  refine callsO gD_ok Try.mix plM Try.func6 rfl Try.ntmps6 Try.results6 rfl (by first | rfl | assumption) (Nat.le_of_ble_eq_true rfl) (by kernel_rfl) ?_
  simp only [push_cast, Nat.reduceAdd, Nat.reduceSub, Nat.reduceMul, Nat.reduceLT, Nat.reduceLeDiff, Nat.reduceEqDiff, Nat.reduceMod, Nat.reduceDiv, Int.reduceAdd, Int.reduceSub, Int.reduceMul, Int.reduceLT, Int.reduceLE, Int.reduceEq, Int.reduceNeg, Int.reduceToNat, reduceIte, reduceCtorEq]
  refine awake_ok.pure trivial ?_
  simp only [push_cast, Nat.reduceAdd, Nat.reduceSub, Nat.reduceMul, Nat.reduceLT, Nat.reduceLeDiff, Nat.reduceEqDiff, Nat.reduceMod, Nat.reduceDiv, Int.reduceAdd, Int.reduceSub, Int.reduceMul, Int.reduceLT, Int.reduceLE, Int.reduceEq, Int.reduceNeg, Int.reduceToNat, reduceIte, reduceCtorEq, h1, i4, en, wrap_i64' (show -9223372036854775808 ≤ (n : Int) ∧ (n : Int) ≤ 9223372036854775807 by omega)]
  refine loopO gD_ok (pl := plM) Try.mix (X := Nat × Value × Hp)
    (fun s => ([(0, .int .i64 less), (1, .int .i64 key), (2, .int .i64 value), (7, .bool true), (8, s.2.1), (9, .int .i64 n), (10, .int .i64 s.1)], s.2.2))
    (fun s => s.1 ≤ n ∧ OutS 31 (mkL s.1) s.2.1 s.2.2) (fun s => n - s.1) (0, .slice none 0 0, []) ?_ ?_ (by kernel_rfl) ?_
  · exact ⟨Nat.zero_le _, .inl ⟨rfl, rfl, rfl⟩⟩
  · simp only [push_cast, Nat.reduceAdd, Nat.reduceSub, Nat.reduceMul, Nat.reduceLT, Nat.reduceLeDiff, Nat.reduceEqDiff, Nat.reduceMod, Nat.reduceDiv, Int.reduceAdd, Int.reduceSub, Int.reduceMul, Int.reduceLT, Int.reduceLE, Int.reduceEq, Int.reduceNeg, Int.reduceToNat, reduceIte, reduceCtorEq, hm]
  · rintro ⟨i, w, N⟩ ⟨hi, ho⟩
    dsimp only at hi ho ⊢
    rcases Nat.lt_or_ge i n with hlt | hge
    · have w1 := wrap_i64' (show -9223372036854775808 ≤ (i : Int) + 1 ∧ (i : Int) + 1 ≤ 9223372036854775807 by omega)
      obtain ⟨m2, hm2⟩ : ∃ m : Nat, m = 2 * i := ⟨_, rfl⟩
      have e2 : (2 : Int) * (i : Int) = (m2 : Int) := by omega
      have w2 := wrap_i64' (show -9223372036854775808 ≤ (m2 : Int) ∧ (m2 : Int) ≤ 9223372036854775807 by omega)
      have o1 : (-9223372036854775808 ≤ (m2 : Int) ∧ (m2 : Int) ≤ 9223372036854775807) = True := eq_true (by omega)
      obtain ⟨kw, hkw⟩ : ∃ kw, W.ofInt (m2 : Int) = kw := ⟨_, rfl⟩
      obtain ⟨ow, how⟩ : ∃ ow, W.ofInt 1 = ow := ⟨_, rfl⟩
      have hms : mkL (i + 1) = mkL i ++ [⟨kw, ow⟩] := by rw [mkL_succ, ← hm2, hkw, how]
      rcases ho with ⟨h0, rfl, rfl⟩ | ⟨bo, co, h0, rfl, hco, rfl⟩
      · simp only [push_cast, Nat.reduceAdd, Nat.reduceSub, Nat.reduceMul, Nat.reduceLT, Nat.reduceLeDiff, Nat.reduceEqDiff, Nat.reduceMod, Nat.reduceDiv, Int.reduceAdd, Int.reduceSub, Int.reduceMul, Int.reduceLT, Int.reduceLE, Int.reduceEq, Int.reduceNeg, Int.reduceToNat, reduceIte, reduceCtorEq, hlt, w1, e2, w2, o1, hkw, how, Sl.pair]
        intro b9
        refine ⟨by unfold two47; omega, fun b10 c10 hb10 hc10 => ?_⟩
        refine ⟨(i + 1, .slice (some ⟨b10, 0, none⟩) 1 c10, [⟨b10, 0, .vec 31 8 c10, slC (mkL (i + 1))⟩]), ⟨hlt, .inr ⟨b10, c10, by rw [mkL_succ]; simp, ?_, ?_, rfl⟩⟩, by dsimp only; omega, ?_⟩
        · rw [mkL_len]
          have := mkL_len i; rw [h0] at this; simp at this; subst this; rfl
        · rw [mkL_len]
          have := mkL_len i; rw [h0] at this; simp at this; omega
        · rw [hms, h0]
          simp only [push_cast, Nat.reduceAdd, Nat.reduceSub, Nat.reduceMul, Nat.reduceLT, Nat.reduceLeDiff, Nat.reduceEqDiff, Nat.reduceMod, Nat.reduceDiv, Int.reduceAdd, Int.reduceSub, Int.reduceMul, Int.reduceLT, Int.reduceLE, Int.reduceEq, Int.reduceNeg, Int.reduceToNat, reduceIte, reduceCtorEq, hb10, slC_one, slC_app, slC_nil]
      · have e8 : (slC (mkL i)).length = i * 8 := by rw [slC_len, mkL_len]
        have e9 : (mkL i).length = i := mkL_len i
        rw [e9] at hco ⊢
        simp only [push_cast, Nat.reduceAdd, Nat.reduceSub, Nat.reduceMul, Nat.reduceLT, Nat.reduceLeDiff, Nat.reduceEqDiff, Nat.reduceMod, Nat.reduceDiv, Int.reduceAdd, Int.reduceSub, Int.reduceMul, Int.reduceLT, Int.reduceLE, Int.reduceEq, Int.reduceNeg, Int.reduceToNat, reduceIte, reduceCtorEq, hlt, w1, e2, w2, o1, hkw, how, Sl.pair, e8]
        intro b9 hb9
        try simp only [push_cast, Nat.reduceAdd, Nat.reduceSub, Nat.reduceMul, Nat.reduceLT, Nat.reduceLeDiff, Nat.reduceEqDiff, Nat.reduceMod, Nat.reduceDiv, Int.reduceAdd, Int.reduceSub, Int.reduceMul, Int.reduceLT, Int.reduceLE, Int.reduceEq, Int.reduceNeg, Int.reduceToNat, reduceIte, reduceCtorEq, hlt, w1, e2, w2, o1, hkw, how, hb9, Sl.pair, e8]
        refine ⟨by unfold two47; omega, fun b10 c10 hb10 hc10 => ?_⟩
        try simp only [push_cast, Nat.reduceAdd, Nat.reduceSub, Nat.reduceMul, Nat.reduceLT, Nat.reduceLeDiff, Nat.reduceEqDiff, Nat.reduceMod, Nat.reduceDiv, Int.reduceAdd, Int.reduceSub, Int.reduceMul, Int.reduceLT, Int.reduceLE, Int.reduceEq, Int.reduceNeg, Int.reduceToNat, reduceIte, reduceCtorEq, hlt, w1, e2, w2, o1, hkw, how, hb9, hb10, Sl.pair, e8]
        refine ⟨(i + 1, .slice (some ⟨b10, 0, none⟩) (i + 1) c10, [⟨b10, 0, .vec 31 8 c10, slC (mkL (i + 1))⟩]), ⟨hlt, .inr ⟨b10, c10, by rw [mkL_succ]; simp, by rw [mkL_len], by rw [mkL_len]; exact hc10, rfl⟩⟩, by dsimp only; omega, ?_⟩
        rw [hms]
        simp only [push_cast, Nat.reduceAdd, Nat.reduceSub, Nat.reduceMul, Nat.reduceLT, Nat.reduceLeDiff, Nat.reduceEqDiff, Nat.reduceMod, Nat.reduceDiv, Int.reduceAdd, Int.reduceSub, Int.reduceMul, Int.reduceLT, Int.reduceLE, Int.reduceEq, Int.reduceNeg, Int.reduceToNat, reduceIte, reduceCtorEq, hb10, hb9, slC_one, slC_app]
    · obtain rfl : i = n := by omega
      have sl : SlR N (mkL i) w := by have := ho.r (H := []); rwa [List.append_nil] at this
      have mN : marksOf N = [] := ho.wr.2
      have ok : (-9223372036854775808 ≤ (pickN key 2200 : Int) ∧ (pickN key 2200 : Int) ≤ 9223372036854775807) = True := eq_true (by omega)
      have ov : (-9223372036854775808 ≤ (pickN value 3 : Int) ∧ (pickN value 3 : Int) ≤ 9223372036854775807) = True := eq_true (by omega)
      obtain ⟨K, hK⟩ : ∃ K, K = pickN key 2200 := ⟨_, rfl⟩
      obtain ⟨V, hV⟩ : ∃ V, V = pickN value 3 := ⟨_, rfl⟩
      rw [← hK] at ok pk
      rw [← hV] at ov p3
      have hri : i ≤ 1000 → rightB (mkL i) = true := fun h => rightB_iff.2 (mkL_ri h)
      have hpt : patchB [⟨W.ofInt (K : Int), W.ofInt (V : Int)⟩] = true := patch_one _
      have hlen := merge_one_len (W.ofInt (K : Int)) (W.ofInt (V : Int)) (mkL_srt (n := i) (by omega)) (mkL_noz i)
      rw [mkL_len, mkL_lk (n := i) (k := K) (by omega) (by omega)] at hlen
      have hget : getW (mergeL (mkL i) [⟨W.ofInt (K : Int), W.ofInt (V : Int)⟩]) (W.ofInt (K : Int)) = W.ofInt (V : Int) := by
        rw [getW_lk, mergeL_lk (mkL_srt (by omega)) (List.pairwise_singleton _ _) (mkL_noz i), lk_cons, if_pos rfl]
        dsimp only
        split
        · rename_i h; rw [h]; rfl
        · rfl
      obtain ⟨M, hM⟩ : ∃ M, M = mergeL (mkL i) [⟨W.ofInt (K : Int), W.ofInt (V : Int)⟩] := ⟨_, rfl⟩
      rw [← hM] at hlen hget
      have hr3 : (1000 < i ∧ mergeR (mkL i) [⟨W.ofInt (K : Int), W.ofInt (V : Int)⟩] = ([], 1)) ∨ (i ≤ 1000 ∧ 1000 < M.length ∧ mergeR (mkL i) [⟨W.ofInt (K : Int), W.ofInt (V : Int)⟩] = ([], 2)) ∨ (i ≤ 1000 ∧ M.length ≤ 1000 ∧ mergeR (mkL i) [⟨W.ofInt (K : Int), W.ofInt (V : Int)⟩] = (M, 0)) := by
        rcases Nat.lt_or_ge 1000 i with h | h
        · refine .inl ⟨h, ?_⟩
          have : rightB (mkL i) = false := by
            cases hb : rightB (mkL i) with
            | false => rfl
            | true => have := rightB_len hb; rw [mkL_len] at this; omega
          simp [mergeR, this]
        · rcases Nat.lt_or_ge 1000 M.length with h' | h'
          · exact .inr (.inl ⟨h, h', by simp [mergeR, hri h, hpt, limR, ← hM, h']⟩)
          · exact .inr (.inr ⟨h, h', by simp [mergeR, hri h, hpt, limR, ← hM, Nat.not_lt.2 h']⟩)
      have tm : (K : Int).tmod 2 = (K : Int) % 2 := Int.tmod_eq_emod_of_nonneg (by omega)
      have td : (K : Int).tdiv 2 = (K : Int) / 2 := Int.tdiv_eq_ediv_of_nonneg (by omega)
      have w2 := wrap_i64' (show -9223372036854775808 ≤ (K : Int) / 2 ∧ (K : Int) / 2 ≤ 9223372036854775807 by omega)
      simp only [push_cast, Nat.reduceAdd, Nat.reduceSub, Nat.reduceMul, Nat.reduceLT, Nat.reduceLeDiff, Nat.reduceEqDiff, Nat.reduceMod, Nat.reduceDiv, Int.reduceAdd, Int.reduceSub, Int.reduceMul, Int.reduceLT, Int.reduceLE, Int.reduceEq, Int.reduceNeg, Int.reduceToNat, reduceIte, reduceCtorEq, Nat.lt_irrefl, h2, ik, h3, i3, ok, ov, ← hK, ← hV]
      refine put_use mN sl ?_
      generalize mergeR (mkL i) [⟨W.ofInt (K : Int), W.ofInt (V : Int)⟩] = R at hr3 ⊢
      obtain ⟨L, e⟩ := R
      intro u1 H1 x1 s1
      replace s1 : SlR H1 L u1 := s1
      obtain ⟨q1, c1, rfl, _⟩ := id s1
      refine (fun rest => ?main : ((T : Tm) → subT T [(7, .bool true), (9, .int .i64 i), (11, .int .i64 K), (12, .int .i64 V), (13, .slice q1 L.length c1), (14, .int .i64 e), (16, .int .i64 M.length)] → WpV Try.prog none 118 (.region 17 ?o false) ?K T H1) → _) ?rest
      case main =>
        rcases Decidable.em (V = 0) with hv | hv
        · have hv0 : ((V : Int) == 0) = true := by rw [beq_iff_eq]; omega
          have hvp : ¬ 0 < V := by omega
          have hVz : (W.ofInt (V : Int) = W.zero) = True := eq_true (by rw [hv]; decide)
          rcases Decidable.em (K % 2 = 0) with h5 | h5
          · have hev : ((K : Int) % 2 == 0) = true := by rw [beq_iff_eq]; omega
            rcases Decidable.em (K / 2 < i) with h6 | h6
            · have h7 : (K : Int) / 2 < (i : Int) := by omega
              have hin : (K % 2 = 0 ∧ K / 2 < i) = True := eq_true ⟨h5, h6⟩
              simp only [hVz, hin, decide_true, if_true] at hlen
              have e1 : (i : Int) - 1 = (M.length : Int) := by omega
              have w3 := wrap_i64' (show -9223372036854775808 ≤ (M.length : Int) ∧ (M.length : Int) ≤ 9223372036854775807 by omega)
              simp only [push_cast, Nat.reduceAdd, Nat.reduceSub, Nat.reduceMul, Nat.reduceLT, Nat.reduceLeDiff, Nat.reduceEqDiff, Nat.reduceMod, Nat.reduceDiv, Int.reduceAdd, Int.reduceSub, Int.reduceMul, Int.reduceLT, Int.reduceLE, Int.reduceEq, Int.reduceNeg, Int.reduceToNat, reduceIte, reduceCtorEq, tm, td, w2, hev, hv0, hvp, h7, e1, w3]
              refine rest _ ?_
              simp only [push_cast, Nat.reduceAdd, Nat.reduceSub, Nat.reduceMul, Nat.reduceLT, Nat.reduceLeDiff, Nat.reduceEqDiff, Nat.reduceMod, Nat.reduceDiv, Int.reduceAdd, Int.reduceSub, Int.reduceMul, Int.reduceLT, Int.reduceLE, Int.reduceEq, Int.reduceNeg, Int.reduceToNat, reduceIte, reduceCtorEq]
            · have h7 : ¬ (K : Int) / 2 < (i : Int) := by omega
              have hin : (K % 2 = 0 ∧ K / 2 < i) = False := eq_false (fun h => h6 h.2)
              simp only [hVz, hin, decide_false, Bool.false_eq_true, if_false, if_true] at hlen
              have e1 : (M.length : Int) = (i : Int) := by omega
              simp only [push_cast, Nat.reduceAdd, Nat.reduceSub, Nat.reduceMul, Nat.reduceLT, Nat.reduceLeDiff, Nat.reduceEqDiff, Nat.reduceMod, Nat.reduceDiv, Int.reduceAdd, Int.reduceSub, Int.reduceMul, Int.reduceLT, Int.reduceLE, Int.reduceEq, Int.reduceNeg, Int.reduceToNat, reduceIte, reduceCtorEq, tm, td, w2, hev, hv0, hvp, h7]
              refine rest _ ?_
              simp only [push_cast, Nat.reduceAdd, Nat.reduceSub, Nat.reduceMul, Nat.reduceLT, Nat.reduceLeDiff, Nat.reduceEqDiff, Nat.reduceMod, Nat.reduceDiv, Int.reduceAdd, Int.reduceSub, Int.reduceMul, Int.reduceLT, Int.reduceLE, Int.reduceEq, Int.reduceNeg, Int.reduceToNat, reduceIte, reduceCtorEq, e1]
          · have hev : ((K : Int) % 2 == 0) = false := by rw [beq_eq_false_iff_ne]; omega
            have hin : (K % 2 = 0 ∧ K / 2 < i) = False := eq_false (fun h => h5 h.1)
            simp only [hVz, hin, decide_false, Bool.false_eq_true, if_false, if_true] at hlen
            have e1 : (M.length : Int) = (i : Int) := by omega
            simp only [push_cast, Nat.reduceAdd, Nat.reduceSub, Nat.reduceMul, Nat.reduceLT, Nat.reduceLeDiff, Nat.reduceEqDiff, Nat.reduceMod, Nat.reduceDiv, Int.reduceAdd, Int.reduceSub, Int.reduceMul, Int.reduceLT, Int.reduceLE, Int.reduceEq, Int.reduceNeg, Int.reduceToNat, reduceIte, reduceCtorEq, tm, td, w2, hev, hv0, hvp]
            refine rest _ ?_
            simp only [push_cast, Nat.reduceAdd, Nat.reduceSub, Nat.reduceMul, Nat.reduceLT, Nat.reduceLeDiff, Nat.reduceEqDiff, Nat.reduceMod, Nat.reduceDiv, Int.reduceAdd, Int.reduceSub, Int.reduceMul, Int.reduceLT, Int.reduceLE, Int.reduceEq, Int.reduceNeg, Int.reduceToNat, reduceIte, reduceCtorEq, e1]
        · have hv0 : ((V : Int) == 0) = false := by rw [beq_eq_false_iff_ne]; omega
          have hvp : 0 < V := by omega
          have hVz : (W.ofInt (V : Int) = W.zero) = False := eq_false (fun e => hv ((ofNat_inj (by omega) (by omega)).1 (e.trans (by decide : W.zero = W.ofInt ((0 : Nat) : Int)))))
          rcases Decidable.em (K % 2 = 0) with h5 | h5
          · have hev : ((K : Int) % 2 == 0) = true := by rw [beq_iff_eq]; omega
            rcases Decidable.em (K / 2 < i) with h6 | h6
            · have h7 : (K : Int) / 2 < (i : Int) := by omega
              have hin : (K % 2 = 0 ∧ K / 2 < i) = True := eq_true ⟨h5, h6⟩
              simp only [hVz, hin, decide_true, if_true, if_false] at hlen
              have e1 : (M.length : Int) = (i : Int) := by omega
              simp only [push_cast, Nat.reduceAdd, Nat.reduceSub, Nat.reduceMul, Nat.reduceLT, Nat.reduceLeDiff, Nat.reduceEqDiff, Nat.reduceMod, Nat.reduceDiv, Int.reduceAdd, Int.reduceSub, Int.reduceMul, Int.reduceLT, Int.reduceLE, Int.reduceEq, Int.reduceNeg, Int.reduceToNat, reduceIte, reduceCtorEq, tm, td, w2, hev, hv0, hvp, h7]
              refine rest _ ?_
              simp only [push_cast, Nat.reduceAdd, Nat.reduceSub, Nat.reduceMul, Nat.reduceLT, Nat.reduceLeDiff, Nat.reduceEqDiff, Nat.reduceMod, Nat.reduceDiv, Int.reduceAdd, Int.reduceSub, Int.reduceMul, Int.reduceLT, Int.reduceLE, Int.reduceEq, Int.reduceNeg, Int.reduceToNat, reduceIte, reduceCtorEq, e1]
            · have h7 : ¬ (K : Int) / 2 < (i : Int) := by omega
              have hin : (K % 2 = 0 ∧ K / 2 < i) = False := eq_false (fun h => h6 h.2)
              simp only [hVz, hin, decide_false, Bool.false_eq_true, if_false] at hlen
              have e1 : (i : Int) + 1 = (M.length : Int) := by omega
              have w3 := wrap_i64' (show -9223372036854775808 ≤ (M.length : Int) ∧ (M.length : Int) ≤ 9223372036854775807 by omega)
              simp only [push_cast, Nat.reduceAdd, Nat.reduceSub, Nat.reduceMul, Nat.reduceLT, Nat.reduceLeDiff, Nat.reduceEqDiff, Nat.reduceMod, Nat.reduceDiv, Int.reduceAdd, Int.reduceSub, Int.reduceMul, Int.reduceLT, Int.reduceLE, Int.reduceEq, Int.reduceNeg, Int.reduceToNat, reduceIte, reduceCtorEq, tm, td, w2, hev, hv0, hvp, h7, e1, w3]
              refine rest _ ?_
              simp only [push_cast, Nat.reduceAdd, Nat.reduceSub, Nat.reduceMul, Nat.reduceLT, Nat.reduceLeDiff, Nat.reduceEqDiff, Nat.reduceMod, Nat.reduceDiv, Int.reduceAdd, Int.reduceSub, Int.reduceMul, Int.reduceLT, Int.reduceLE, Int.reduceEq, Int.reduceNeg, Int.reduceToNat, reduceIte, reduceCtorEq]
          · have hev : ((K : Int) % 2 == 0) = false := by rw [beq_eq_false_iff_ne]; omega
            have hin : (K % 2 = 0 ∧ K / 2 < i) = False := eq_false (fun h => h5 h.1)
            simp only [hVz, hin, decide_false, Bool.false_eq_true, if_false] at hlen
            have e1 : (i : Int) + 1 = (M.length : Int) := by omega
            have w3 := wrap_i64' (show -9223372036854775808 ≤ (M.length : Int) ∧ (M.length : Int) ≤ 9223372036854775807 by omega)
            simp only [push_cast, Nat.reduceAdd, Nat.reduceSub, Nat.reduceMul, Nat.reduceLT, Nat.reduceLeDiff, Nat.reduceEqDiff, Nat.reduceMod, Nat.reduceDiv, Int.reduceAdd, Int.reduceSub, Int.reduceMul, Int.reduceLT, Int.reduceLE, Int.reduceEq, Int.reduceNeg, Int.reduceToNat, reduceIte, reduceCtorEq, tm, td, w2, hev, hv0, hvp, e1, w3]
            refine rest _ ?_
            simp only [push_cast, Nat.reduceAdd, Nat.reduceSub, Nat.reduceMul, Nat.reduceLT, Nat.reduceLeDiff, Nat.reduceEqDiff, Nat.reduceMod, Nat.reduceDiv, Int.reduceAdd, Int.reduceSub, Int.reduceMul, Int.reduceLT, Int.reduceLE, Int.reduceEq, Int.reduceNeg, Int.reduceToNat, reduceIte, reduceCtorEq]
      case rest =>
        intro T hT
        refine WpV.sub (s := (_, H1)) ⟨hT, subH_self _, rfl⟩ (regO gD_ok ?_)
        rcases hr3 with ⟨g1, g2⟩ | ⟨g1, g2, g3⟩ | ⟨g1, g2, g3⟩
        · cases g2
          have e1 : (1000 : Int) < (i : Int) := by omega
          simp only [push_cast, Nat.reduceAdd, Nat.reduceSub, Nat.reduceMul, Nat.reduceLT, Nat.reduceLeDiff, Nat.reduceEqDiff, Nat.reduceMod, Nat.reduceDiv, Int.reduceAdd, Int.reduceSub, Int.reduceMul, Int.reduceLT, Int.reduceLE, Int.reduceEq, Int.reduceNeg, Int.reduceToNat, reduceIte, reduceCtorEq, e1, List.length_nil]
        · cases g3
          have e1 : ¬ (1000 : Int) < (i : Int) := by omega
          have e2 : (1000 : Int) < (M.length : Int) := by omega
          simp only [push_cast, Nat.reduceAdd, Nat.reduceSub, Nat.reduceMul, Nat.reduceLT, Nat.reduceLeDiff, Nat.reduceEqDiff, Nat.reduceMod, Nat.reduceDiv, Int.reduceAdd, Int.reduceSub, Int.reduceMul, Int.reduceLT, Int.reduceLE, Int.reduceEq, Int.reduceNeg, Int.reduceToNat, reduceIte, reduceCtorEq, e1, e2, List.length_nil]
        · cases g3
          have e1 : ¬ (1000 : Int) < (i : Int) := by omega
          have e2 : ¬ (1000 : Int) < (M.length : Int) := by omega
          simp only [push_cast, Nat.reduceAdd, Nat.reduceSub, Nat.reduceMul, Nat.reduceLT, Nat.reduceLeDiff, Nat.reduceEqDiff, Nat.reduceMod, Nat.reduceDiv, Int.reduceAdd, Int.reduceSub, Int.reduceMul, Int.reduceLT, Int.reduceLE, Int.reduceEq, Int.reduceNeg, Int.reduceToNat, reduceIte, reduceCtorEq, e1, e2, ok, ov]
          refine get_use s1 (by omega) ?_
          rw [hget]
          simp only [push_cast, Nat.reduceAdd, Nat.reduceSub, Nat.reduceMul, Nat.reduceLT, Nat.reduceLeDiff, Nat.reduceEqDiff, Nat.reduceMod, Nat.reduceDiv, Int.reduceAdd, Int.reduceSub, Int.reduceMul, Int.reduceLT, Int.reduceLE, Int.reduceEq, Int.reduceNeg, Int.reduceToNat, reduceIte, reduceCtorEq, ok, ov, decide_true]
end Go.Proofs.Ytfjenfjfiinjmaa
