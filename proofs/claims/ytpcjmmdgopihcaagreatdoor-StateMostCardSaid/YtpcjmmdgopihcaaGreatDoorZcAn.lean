/- Texts of this claim, merged by program: Io In Ip. -/
import Derived.Test.YtpcjmmdgopihcaaGreatDoorZcAm
set_option linter.unusedSimpArgs false
set_option linter.unusedVariables false
namespace Go.Ev
theorem ad1_len (k : Nat) : (1 :: UInt8.ofNat k :: List.replicate 18 (0 : UInt8)).length = 20 := by simp
def ad1 (k : Nat) : Ad := ⟨1 :: UInt8.ofNat k :: List.replicate 18 0, ad1_len k⟩
theorem u8_nat {k : Nat} (h : k < 256) : (UInt8.ofNat k).toNat = k := by
  rw [UInt8.toNat_ofNat']; exact Nat.mod_eq_of_lt h
theorem ad1_num {k : Nat} (h : k < 256) : (ad1 k).num = (256 + k) * 256 ^ 18 := by
  unfold Ad.num ad1
  simp only [List.replicate, List.foldl_cons, List.foldl_nil, u8_nat h, UInt8.toNat_one, UInt8.toNat_zero]
  omega
theorem ad1_lt {i k : Nat} (hi : i < 256) (hk : k < 256) : decide ((ad1 i).num < (ad1 k).num) = decide (i < k) := by
  rw [ad1_num hi, ad1_num hk, decide_eq_decide]
  have : (0 : Nat) < 256 ^ 18 := by decide
  rw [Nat.mul_lt_mul_right this]
  omega
def ac1 (v : Int) (i : Nat) : Ac := ⟨ad1 i, W.zero, v, .empty, []⟩
def mostL (n : Nat) : List Ac := (List.range n).map (ac1 1)
theorem mostL_len (n : Nat) : (mostL n).length = n := by unfold mostL; simp
theorem ac1_may {v : Int} (h0 : 0 ≤ v) (h1 : v ≤ 3) (i : Nat) : mayA (ac1 v i) = true := by
  unfold mayA ac1
  rw [rightB_iff.2 ⟨List.Pairwise.nil, fun x h => (by cases h), by simp⟩, decide_eq_true h0, decide_eq_true (show v ≤ 9007199254740992 by omega)]
  rfl
theorem ac1_empty (v : Int) (i : Nat) : emptyA (ac1 v i) = decide (v = 0) := by
  unfold emptyA ac1
  rw [decide_eq_true (show W.zero = W.zero from rfl)]
  show (true && (decide (v = 0) && (decide (ByteArray.empty.size = 0) && decide (([] : List Sl).length = 0)))) = _
  rw [decide_eq_true (show ByteArray.empty.size = 0 from rfl), decide_eq_true (show ([] : List Sl).length = 0 from rfl)]
  cases decide (v = 0) <;> rfl
theorem most_ri {n : Nat} (h : n ≤ 200) : RiS (mostL n) := by
  refine ⟨fun x hx => ?_, fun x hx => ?_, ?_, by rw [mostL_len]; exact h⟩
  · obtain ⟨i, -, rfl⟩ := List.mem_map.1 hx
    exact ac1_may (by decide) (by decide) i
  · obtain ⟨i, -, rfl⟩ := List.mem_map.1 hx
    rw [ac1_empty]; rfl
  · unfold mostL
    rw [List.pairwise_map]
    refine List.Pairwise.imp_of_mem (fun {a b} ha hb hab => ?_) List.pairwise_lt_range
    have h1 := List.mem_range.1 ha
    have h2 := List.mem_range.1 hb
    have := ad1_lt (show a < 256 by omega) (show b < 256 by omega)
    rw [decide_eq_true hab] at this
    exact of_decide_eq_true this
theorem most_bad {n : Nat} (h : 200 < n) : rightS (mostL n) = false := by
  cases hr : rightS (mostL n) with
  | false => rfl
  | true => have := (rightS_iff.1 hr).len; rw [mostL_len] at this; omega
theorem filt_lt (k : Nat) : ∀ n, ((List.range n).filter fun i => decide (i < k)).length = min n k
  | 0 => by simp
  | n + 1 => by
    rw [List.range_succ, List.filter_append, List.length_append, filt_lt k n]
    by_cases h : n < k
    · simp [h]; omega
    · simp [h]; omega
theorem filt_gt (k : Nat) : ∀ n, ((List.range n).filter fun i => decide (k < i)).length = n - (k + 1)
  | 0 => by simp
  | n + 1 => by
    rw [List.range_succ, List.filter_append, List.length_append, filt_gt k n]
    by_cases h : k < n
    · simp [h]; omega
    · simp [h]; omega
def chM (k : Nat) (v : Int) : Ch := ⟨2, ad1 k, W.zero, W.zero, v, .empty⟩
theorem most_put {n k : Nat} {v : Int} (hn : n ≤ 256) (hk : k < 256) : (putS (mostL n) (ac1 v k)).length = min n k + ((if v = 0 then 0 else 1) + (n - (k + 1))) := by
  obtain ⟨nm, hnm⟩ : ∃ nm : Nat → Nat, ∀ i, (ad1 i).num = nm i := ⟨_, fun _ => rfl⟩
  unfold putS
  rw [ac1_empty, List.length_append, List.length_append]
  have e1 : ((mostL n).filter fun y => decide (y.at_.num < (ac1 v k).at_.num)).length = min n k := by
    have h1 : (List.range n).filter ((fun y : Ac => decide (y.at_.num < (ac1 v k).at_.num)) ∘ ac1 1) = (List.range n).filter fun i => decide (i < k) := by
      refine List.filter_congr fun i hi => ?_
      have := List.mem_range.1 hi
      have h2 := ad1_lt (show i < 256 by omega) hk
      rw [hnm, hnm] at h2
      simp only [Function.comp, ac1, hnm]
      exact h2
    unfold mostL
    rw [List.filter_map, List.length_map, h1, filt_lt]
  have e2 : ((mostL n).filter fun y => decide ((ac1 v k).at_.num < y.at_.num)).length = n - (k + 1) := by
    have h1 : (List.range n).filter ((fun y : Ac => decide ((ac1 v k).at_.num < y.at_.num)) ∘ ac1 1) = (List.range n).filter fun i => decide (k < i) := by
      refine List.filter_congr fun i hi => ?_
      have := List.mem_range.1 hi
      have h2 := ad1_lt hk (show i < 256 by omega)
      rw [hnm, hnm] at h2
      simp only [Function.comp, ac1, hnm]
      exact h2
    unfold mostL
    rw [List.filter_map, List.length_map, h1, filt_gt]
  rw [e1, e2]
  by_cases h : v = 0
  · rw [if_pos h, if_pos (by simpa using h)]; rfl
  · rw [if_neg h, if_neg (by simpa using h)]; rfl
theorem most_ch {n k : Nat} {v : Int} (hn : n ≤ 256) (hk : k < 256) : ∃ w : Int, chA (findS (mostL n) (ad1 k)) (chM k v) = (ac1 v k, ⟨2, ad1 k, W.zero, W.zero, w, .empty⟩, 0) := by
  have hf : ∃ w : Int, findS (mostL n) (ad1 k) = ⟨ad1 k, W.zero, w, .empty, []⟩ := by
    rcases findS_cases (mostL n) (ad1 k) with ⟨h, -⟩ | h
    · exact ⟨0, by rw [h]; rfl⟩
    · obtain ⟨i, hi, he⟩ := List.mem_map.1 h
      have ha : (findS (mostL n) (ad1 k)).at_ = ad1 k := findS_at ..
      rw [← he] at ha ⊢
      have ha : ad1 i = ad1 k := ha
      exact ⟨1, by rw [← ha]; rfl⟩
  obtain ⟨w, hw⟩ := hf
  refine ⟨w, ?_⟩
  rw [hw]
  unfold chA chM
  rw [if_neg (show ¬ (2 : Int) = 1 by decide), if_pos (show (2 : Int) = 2 from rfl)]
  rfl
theorem most_do {n k : Nat} {v : Int} (hn : n ≤ 256) (hk : k < 256) (h0 : 0 ≤ v) (h3 : v ≤ 3) (L : Nat) (hL : L = min n k + ((if v = 0 then 0 else 1) + (n - (k + 1)))) :
    (200 < n → doS (mostL n) (chM k v) = (mostL n, Ch.zero, 1)) ∧ (n ≤ 200 → 200 < L → doS (mostL n) (chM k v) = (mostL n, Ch.zero, 2)) ∧ (n ≤ 200 → L ≤ 200 → ∃ t u, doS (mostL n) (chM k v) = (t, u, 0) ∧ t.length = L) := by
  obtain ⟨w, hw⟩ := most_ch (v := v) hn hk
  have hat : (chM k v).at_ = ad1 k := rfl
  have hp := most_put (v := v) hn hk
  rw [← hL] at hp
  refine ⟨fun h => ?_, fun h h2 => ?_, fun h h2 => ?_⟩
  · unfold doS
    rw [if_pos (most_bad h)]
  · have hs : setS (mostL n) (ac1 v k) = ([], 2) := by
      unfold setS
      rw [rightS_iff.2 (most_ri h), ac1_may h0 h3, if_pos (by rfl), if_pos (by rw [hp]; exact h2)]
    unfold doS
    rw [if_neg (by rw [rightS_iff.2 (most_ri h)]; decide), hat, hw, if_neg (show ¬ (0 : Int) ≠ 0 by decide), hs, if_pos (show (2 : Int) ≠ 0 by decide)]
  · have hd : Did (mostL n) (chM k v) := ⟨most_ri h, by rw [hat, hw], by rw [hat, hw]; exact ac1_may h0 h3 k, by rw [hat, hw]; dsimp only; rw [hp]; exact h2⟩
    refine ⟨_, _, hd.val, ?_⟩
    rw [hat, hw]
    exact hp
end Go.Ev
set_option linter.unusedSimpArgs false
set_option linter.unusedVariables false
namespace Go.Proofs.YtpcjmmdgopihcaaGreatDoor
open Go Go.Ev Go.Proofs
set_option maxRecDepth 100000
set_option maxHeartbeats 4000000
end Go.Proofs.YtpcjmmdgopihcaaGreatDoor
set_option linter.unusedSimpArgs false
set_option linter.unusedVariables false
namespace Go.Ev
theorem chM_v {k : Nat} (h : k < 256) (v : Int) : (chM k v).v = .agg #[.int .i64 2, .int .u8 1, .int .u8 k, .int .u8 0, .int .u8 0, .int .u8 0, .int .u8 0, .int .u8 0, .int .u8 0, .int .u8 0, .int .u8 0, .int .u8 0, .int .u8 0, .int .u8 0, .int .u8 0, .int .u8 0, .int .u8 0, .int .u8 0, .int .u8 0, .int .u8 0, .int .u8 0, .int .u64 0, .int .u64 0, .int .u64 0, .int .u64 0, .int .u64 0, .int .u64 0, .int .u64 0, .int .u64 0, .int .i64 v, .string .empty] := by
  have : byteV (1 :: UInt8.ofNat k :: List.replicate 18 0) = .int .u8 1 :: .int .u8 k :: List.replicate 18 (.int .u8 0) := by
    unfold byteV
    simp only [List.map_cons, List.map_replicate, u8_nat h]
    rfl
  unfold Ch.v Ch.cells chM Ad.cells ad1
  dsimp only
  rw [this]
  rfl
theorem ac1_cells {k : Nat} (h : k < 256) (v : Int) : acC (ac1 v k, .slice none 0 0) = [.int .u8 1, .int .u8 k, .int .u8 0, .int .u8 0, .int .u8 0, .int .u8 0, .int .u8 0, .int .u8 0, .int .u8 0, .int .u8 0, .int .u8 0, .int .u8 0, .int .u8 0, .int .u8 0, .int .u8 0, .int .u8 0, .int .u8 0, .int .u8 0, .int .u8 0, .int .u8 0, .int .u64 0, .int .u64 0, .int .u64 0, .int .u64 0, .int .i64 v, .string .empty, .slice none 0 0] := by
  have : byteV (1 :: UInt8.ofNat k :: List.replicate 18 0) = .int .u8 1 :: .int .u8 k :: List.replicate 18 (.int .u8 0) := by
    unfold byteV
    simp only [List.map_cons, List.map_replicate, u8_nat h]
    rfl
  unfold acC Ac.cells ac1 Ad.cells ad1
  dsimp only
  rw [this]
  rfl
def mostP (n : Nat) : List (Ac × Value) := (List.range n).map fun i => (ac1 1 i, .slice none 0 0)
theorem mostP_len (n : Nat) : (mostP n).length = n := by unfold mostP; simp
theorem mostP_succ (n : Nat) : mostP (n + 1) = mostP n ++ [(ac1 1 n, .slice none 0 0)] := by unfold mostP; rw [List.range_succ, List.map_append]; rfl
theorem mostP_map (n : Nat) : (mostP n).map (·.1) = mostL n := by unfold mostP mostL; rw [List.map_map]; rfl
end Go.Ev
namespace Go.Proofs.YtpcjmmdgopihcaaGreatDoor
open Go Go.Ev Go.Proofs
set_option maxRecDepth 100000
set_option maxHeartbeats 4000000
attribute [-push_cast] evAppend_nil evAppend_some slAddr
theorem stateMost_ok {M : Hp} {a b c : Int} (hk : KonR M) (hm : marksOf M = []) (ia : i64In a) (ib : i64In b) (ic : i64In c) : CallsV Tryz.prog 8 [.int .i64 a, .int .i64 b, .int .i64 c] M (Ret0 (.bool true)) := by
  have j4 : i64In 4 := by decide
  have j256 : i64In 256 := by decide
  have j2 : i64In 2 := by decide
  have pa := pickN_lt a (show (0 : Int) < 4 by decide)
  have pb := pickN_lt b (show (0 : Int) < 256 by decide)
  have pc := pickN_lt c (show (0 : Int) < 2 by decide)
  obtain ⟨x, hx⟩ : ∃ x, x = pickN a 4 := ⟨_, rfl⟩
  obtain ⟨k, hk'⟩ : ∃ k, k = pickN b 256 := ⟨_, rfl⟩
  obtain ⟨v, hv⟩ : ∃ v, v = pickN c 2 := ⟨_, rfl⟩
  rw [← hx] at pa
  rw [← hk'] at pb
  rw [← hv] at pc
  have pa4 : x < 4 := by omega
  have pb4 : k < 256 := by omega
  have pc2 : v < 2 := by omega
  obtain ⟨n, hn⟩ : ∃ n, n = 198 + x := ⟨_, rfl⟩
  have hni : IntKind.i64.wrap (198 + (x : Int)) = (n : Int) := by rw [show 198 + (x : Int) = (n : Int) by omega]; exact IntWalk.i64_in _ (by omega)
  have hk8 : IntKind.u8.wrap (k : Int) = (k : Int) := wrap_u8' (by omega)
  refine callsO gV2_ok Tryz.mix Tryz.pl8 Tryz.func8 rfl Tryz.ntmps8 Tryz.results8 rfl (by first | rfl | assumption) (Nat.le_of_ble_eq_true rfl) (by kernel_rfl) ?_
  simp only [push_cast, seval, reduceCtorEq]
  refine useP [] (awk08_P hk) trivial ?_
  simp only [push_cast, seval, reduceCtorEq, ia, j4, ← hx, hni]
  refine loopO gV2_ok (pl := Tryz.pl8) Tryz.mix (X := Nat × Value × Hp)
    (fun s => ([(1, .int .i64 b), (2, .int .i64 c), (7, .bool true), (8, .int .i64 n), (9, s.2.1), (10, .int .i64 s.1)], s.2.2 ++ M))
    (fun s => s.1 ≤ n ∧ OutC 31 27 ((mostP s.1).flatMap acC) (mostP s.1).length s.2.1 s.2.2 ∧ freshN s.2.2 M) (fun s => n - s.1) (0, .slice none 0 0, []) ?_ ?_ (by kernel_rfl) ?_
  · exact ⟨Nat.zero_le _, .nil _ _, trivial⟩
  · simp only [push_cast, seval, reduceCtorEq]
    first | done | exact rfl | exact ⟨rfl, subH_self _⟩ | exact subH_self _
  · rintro ⟨i, vo, No⟩ ⟨hi, ho, hf⟩
    dsimp only at hi ho hf ⊢
    rcases Nat.lt_or_ge i n with hlt | hge
    · have i1 : (i : Int) < (n : Int) := by omega
      have i8 : IntKind.u8.wrap (i : Int) = (i : Int) := wrap_u8' (by omega)
      obtain ⟨po, ko, rfl⟩ := ho.slice
      have hli := mostP_len i
      simp only [push_cast, seval, reduceCtorEq, i1, hlt, i8, ← ac1_cells (show i < 256 by omega) 1]
      intro b31 hb31
      refine push_outA (c := acC) (x := (ac1 1 i, .slice none 0 0)) (by_ := 104) (q := 27) (ag := true) [] ho ⟨(fresh_app_iff.1 hb31).1, trivial⟩ (by simp only [push_cast, seval, reduceCtorEq]) (by simp only [push_cast, seval, reduceCtorEq]) (acC_len _) (Ac.all1 _ _ rfl) (by unfold two47; omega) fun v' N' ho' hf' => ?_
      simp only [push_cast, seval, reduceCtorEq, wrap_i64' (show -9223372036854775808 ≤ (i : Int) + 1 ∧ (i : Int) + 1 ≤ 9223372036854775807 by omega), List.nil_append]
      exact ⟨(i + 1, v', N'), ⟨hlt, by dsimp only; rw [mostP_succ]; exact ho', freshN_cons hf'⟩, by dsimp only; omega, ⟨rfl, rfl⟩, subH_pre (subH_cons (fresh_app_iff.1 hb31).2) N', by simp only [marks_append, marksOf, ho.wr.2, ho'.wr.2]⟩
    · obtain rfl : i = n := by omega
      simp only [push_cast, seval, reduceCtorEq, Int.lt_irrefl, Nat.lt_irrefl, ib, ic, j256, j2, ← hk', ← hv, hk8, ← chM_v pb4]
      have hstr : StR (mostL i) vo (No ++ M) := ⟨mostP i, mostP_map i, ho.liR rfl rfl M, fun x hx => by
        obtain ⟨j, -, rfl⟩ := List.mem_map.1 hx
        exact LiR.nil _ 0⟩
      have hmN : marksOf (No ++ M) = [] := by rw [marks_append, ho.wr.2, hm]; rfl
      have hml := mostL_len i
      refine useL [] (sdo_R (c := chM k v) hstr (by rw [hml]; omega) (fun y hy => by obtain ⟨j, -, rfl⟩ := List.mem_map.1 hy; exact Nat.zero_le _)) (DoR.rd _) hmN trivial fun w M2 hg2 hL2 hq2 => ?_
      obtain ⟨w, rfl, hs⟩ := hq2
      have hst2 := hstr.ext hg2.ext
      obtain ⟨L, hL⟩ : ∃ L, L = min i k + ((if (v : Int) = 0 then 0 else 1) + (i - (k + 1))) := ⟨_, rfl⟩
      obtain ⟨d1, d2, d3⟩ := most_do (n := i) (k := k) (v := (v : Int)) (by omega) pb4 (by omega) (by omega) L hL
      obtain ⟨R, hR⟩ : ∃ R, R = doS (mostL i) (chM k v) := ⟨_, rfl⟩
      rw [← hR] at hs d1 d2 d3 ⊢
      obtain ⟨R1, R2, R3⟩ := R
      dsimp only at hs ⊢
      obtain ⟨pt, kt, rfl⟩ := hs.slice
      obtain ⟨po, ko, rfl⟩ := ho.slice
      have hpl := mostP_len i
      have hri : i ≤ 200 → RiS (mostL i) := most_ri
      have hrb : 200 < i → ∀ M0, roM M0 → cellsAt M0 = cellsAt M2 → CallsV Tryz.prog 12 [.slice po (mostP i).length ko] M0 (Ret0 (.bool false)) := fun hb M0 hr he => by
        have := sright_ok (StR.rd _ _ _ _ he.symm hst2) hr.marks (by rw [hml]; omega)
        rw [most_bad hb] at this
        exact this
      have hv2 : v = 0 ∨ v = 1 := by omega
      have hx4 : x = 0 ∨ x = 1 ∨ x = 2 ∨ x = 3 := by omega
      clear hR hx hk' hv hni
      have i0 : ((198 : Nat) : Int) ≤ (i : Int) ∧ (i : Int) ≤ 201 := by omega
      have wm : IntKind.i64.wrap ((i : Int) - 1) = (i : Int) - 1 := IntWalk.i64_in _ (by omega)
      have wp : IntKind.i64.wrap ((i : Int) + 1) = (i : Int) + 1 := IntWalk.i64_in _ (by omega)
      have z0 : ((0 : Nat) : Int) = 0 := rfl
      have z1 : ((1 : Nat) : Int) = 1 := rfl
      rcases Nat.lt_or_ge 200 i with h2 | h2
      · have hq := d1 h2
        injection hq with hq1 hq2
        injection hq2 with hq2 hq3
        subst hq1 hq2 hq3
        have c2 : (200 : Int) < (i : Int) := by omega
        rcases hv2 with rfl | rfl <;> by_cases hkn : k < i
        all_goals (
          first
          | (have ck : (k : Int) < (i : Int) := by omega)
          | (have ck : ¬ (k : Int) < (i : Int) := by omega)
          first
          | (have cg : (i : Int) ≤ (k : Int) := by omega)
          | (have cg : ¬ (i : Int) ≤ (k : Int) := by omega)
          simp only [push_cast, seval, reduceCtorEq, Ch.zero.len, Ch.zero.all1, ck, cg, hkn, wm, wp, c2, z0, z1]
          intro b14 hb14
          refine useP [_] (hrb h2) ⟨hb14, trivial⟩ ?_
          simp only [push_cast, seval, reduceCtorEq, hml, hpl, hb14])
      · have c2 : ¬ (200 : Int) < (i : Int) := by omega
        have hd3 : L ≤ 200 → R1.length = L ∧ R3 = 0 := fun h => by
          obtain ⟨t, u, h5, h6⟩ := d3 h2 h
          injection h5 with h5 h7
          injection h7 with h7 h8
          rw [h5, h8]
          exact ⟨h6, rfl⟩
        rcases hv2 with rfl | rfl <;> by_cases hkn : k < i
        · have ck : (k : Int) < (i : Int) := by omega
          obtain ⟨e1, e2⟩ := hd3 (by rw [hL, if_pos z0]; omega)
          have e3 : (R1.length : Int) = (i : Int) - 1 := by rw [e1, hL, if_pos z0]; omega
          have c3 : ¬ (200 : Int) < (i : Int) - 1 := by omega
          have cg : ¬ (i : Int) ≤ (k : Int) := by omega
          simp only [push_cast, seval, reduceCtorEq, R2.len, R2.all1, Ch.zero.len, Ch.zero.all1, ck, cg, hkn, wm, wp, c2, c3, z0, z1, e2, e3]
        · have ck : ¬ (k : Int) < (i : Int) := by omega
          obtain ⟨e1, e2⟩ := hd3 (by rw [hL, if_pos z0]; omega)
          have e3 : (R1.length : Int) = (i : Int) := by rw [e1, hL, if_pos z0]; omega
          have cg : (i : Int) ≤ (k : Int) := by omega
          simp only [push_cast, seval, reduceCtorEq, R2.len, R2.all1, Ch.zero.len, Ch.zero.all1, ck, cg, hkn, wm, wp, c2, z0, z1, e2, e3]
        · have ck : (k : Int) < (i : Int) := by omega
          obtain ⟨e1, e2⟩ := hd3 (by rw [hL, if_neg (by decide)]; omega)
          have e3 : (R1.length : Int) = (i : Int) := by rw [e1, hL, if_neg (by decide)]; omega
          have cg : ¬ (i : Int) ≤ (k : Int) := by omega
          simp only [push_cast, seval, reduceCtorEq, R2.len, R2.all1, Ch.zero.len, Ch.zero.all1, ck, cg, hkn, wm, wp, c2, z0, z1, e2, e3]
        · have ck : ¬ (k : Int) < (i : Int) := by omega
          have cg : (i : Int) ≤ (k : Int) := by omega
          have hL1 : L = i + 1 := by rw [hL, if_neg (by decide)]; omega
          rcases Nat.lt_or_ge 200 L with h3 | h3
          · have hq := d2 h2 h3
            injection hq with hq1 hq2
            injection hq2 with hq2 hq3
            subst hq1 hq2 hq3
            have c3 : (200 : Int) < (i : Int) + 1 := by omega
            simp only [push_cast, seval, reduceCtorEq, Ch.zero.len, Ch.zero.all1, ck, cg, hkn, wm, wp, c2, c3, z0, z1, hml]
          · obtain ⟨e1, e2⟩ := hd3 h3
            have c3 : ¬ (200 : Int) < (i : Int) + 1 := by omega
            have e3 : (R1.length : Int) = (i : Int) + 1 := by rw [e1, hL1]; omega
            simp only [push_cast, seval, reduceCtorEq, R2.len, R2.all1, Ch.zero.len, Ch.zero.all1, ck, cg, hkn, wm, wp, c2, c3, z0, z1, e2, e3]
end Go.Proofs.YtpcjmmdgopihcaaGreatDoor
