/- Texts of this claim, merged by program: Mn. -/
import Derived.Test.YtpcjmmdgopihcaaGreatDoorZgAw
import Derived.Test.YtpcjmmdgopihcaaGreatDoorZgAh
set_option linter.unusedSimpArgs false
set_option linter.unusedVariables false
set_option maxRecDepth 100000
set_option maxHeartbeats 4000000
namespace Go.Ev
theorem two_ad (a b : Ad) {z : List Value} (hz : z.length = 20) : List.take 20 (a.cells ++ z) ++ (b.cells ++ List.drop 40 (a.cells ++ z)) = a.cells ++ b.cells := by
 rw [List.take_left' a.len, List.drop_of_length_le (by rw [List.length_append, a.len, hz]; decide), List.append_nil]
theorem two_ch (a b : Ch) {z : List Value} (hz : z.length = 31) : List.take 31 (a.cells ++ z) ++ (b.cells ++ List.drop 62 (a.cells ++ z)) = a.cells ++ b.cells := by
 rw [List.take_left' a.len, List.drop_of_length_le (by rw [List.length_append, a.len, hz]; decide), List.append_nil]
theorem two_chat (a b : Ch) {k : Nat} (h : k < 2) : ∃ x : Ch, List.take 31 (List.drop (k * 31) (a.cells ++ b.cells)) = x.cells := by
 rcases (by omega : k = 0 ∨ k = 1) with rfl | rfl
 · exact ⟨a, by rw [Nat.zero_mul, List.drop_zero, List.take_left' a.len]⟩
 · exact ⟨b, by rw [Nat.one_mul, List.drop_left' a.len, List.take_of_length_le (Nat.le_of_eq b.len)]⟩
theorem two_at (a b : Ad) {k : Nat} (h : k < 2) : ∃ x : Ad, List.take 20 (List.drop (k * 20) (a.cells ++ b.cells)) = x.cells := by
 rcases (by omega : k = 0 ∨ k = 1) with rfl | rfl
 · exact ⟨a, by rw [Nat.zero_mul, List.drop_zero, List.take_left' a.len]⟩
 · exact ⟨b, by rw [Nat.one_mul, List.drop_left' a.len, List.take_of_length_le (Nat.le_of_eq b.len)]⟩
end Go.Ev
namespace Go.Proofs.YtpcjmmdgopihcaaGreatDoor
open Go Go.Ev Go.Proofs
attribute [-push_cast] evAppend_nil evAppend_some slAddr
def plST : Plans := fun i => if i = 1 then [(0, 9)] else if i = 3 then [(0, 9)] else if i = 5 then [(0, 9)] else if i = 11 then [(0, 9)] else if i = 14 then [] else if i = 16 then [] else if i = 19 then [] else if i = 26 then [] else Tryz.pl3 i
attribute [push_cast] plST
theorem stateTells_ok {M : Hp} {s0 : List Ac} {p0 : Option Addr} {k0 : Nat} {raw : List R4} {vr sx : Value} {X : Ac} {c : Ch} {r : R4} {many : Int} (hk : KonR M) (hm : marksOf M = []) (h0 : StR s0 (.slice p0 s0.length k0) M) (hcap : s0.length ≤ k0) (h0n : ∀ y ∈ s0, -9223372036854775808 ≤ y.nonce ∧ y.nonce ≤ 9223372036854775807) (h0s : ∀ y ∈ s0, y.slots.length ≤ 2199023255551)
  (hr : LiR R4.cells 4 M raw vr) (ir : ∀ r ∈ raw, r.In) (hX : LiR Sl.cells 8 M X.slots sx) (hXn : X.slots.length ≤ 2199023255551) (ic : r.In) (im : i64In many) :
  CallsV Tryz.prog 3 [.slice p0 s0.length k0, vr, .agg (X.cells sx).toArray, c.v, r.v, .int .i64 many] M (Ret0 (.bool true)) := by
 have hf := stateR_few raw
 have hst := state_ok hr ir
 obtain ⟨S, hS⟩ : ∃ S, S = stateR raw := ⟨_, rfl⟩
 rw [← hS] at hf hst
 obtain ⟨pr, kr, rfl⟩ := hr.slice
 obtain ⟨qx, ex, rfl⟩ := LiR.slice hX
 have xall := Ac.all1 X _ hX.one
 obtain ⟨xg1, xg2, xg3, xg4, xg5, xg6⟩ := X.get (.slice qx X.slots.length ex)
 have hrc : R4.v r = .agg #[.int .i64 r.a, .int .i64 r.b, .int .i64 r.c, .int .i64 r.d] := rfl
 have cv : c.v = .agg c.cells.toArray := rfl
 obtain ⟨i1, i2, i3, i4⟩ := ic
 have j4 : i64In 4 := by decide
 have pa := pickN_lt many (show (0 : Int) < 4 by decide)
 obtain ⟨mq, hmq⟩ : ∃ x, x = pickN many 4 := ⟨_, rfl⟩
 rw [← hmq] at pa
 obtain ⟨n, hn⟩ : ∃ n, n = 198 + mq := ⟨_, rfl⟩
 have hni : IntKind.i64.wrap (198 + (mq : Int)) = (n : Int) := by rw [show 198 + (mq : Int) = (n : Int) by omega]; exact IntWalk.i64_in _ (by omega)
 have ca := c.all1
 have cl := c.len
 obtain ⟨C, hC⟩ : ∃ C, C = c.cells := ⟨_, rfl⟩
 refine callsO gV2_ok Tryz.mix plST Tryz.func3 rfl Tryz.ntmps3 Tryz.results3 rfl (by first | rfl | assumption) (Nat.le_of_ble_eq_true rfl) (by kernel_rfl) ?_
 simp only [push_cast, seval, reduceCtorEq, hrc, xall, xg6]
 intro b8 hb8 b9 hb9 b10 hb10
 have f9 : fresh b9 M := hb9.2.2
 have f10 : fresh b10 M := hb10.2.2.2.2
 refine regO gV2_ok ?_
 simp only [push_cast, seval, reduceCtorEq, hb9, hb10]
 refine useP [_, _, _] (awk08_P hk) ⟨f10, f9, hb8, trivial⟩ ?_
 simp only [push_cast, seval, reduceCtorEq, hb9, hb10]
 refine (fun rest => ?main : ((ny : Nat) → (Y : List Ac) → (T : Tm) → StR Y (.slice p0 ny k0) M → Y.length = ny → ny ≤ 12 → (∀ y ∈ Y, y ∈ s0) → subT T [(1, .slice pr raw.length kr), (5, .int .i64 many), (8, .pointer (some ⟨b8, 0, none⟩)), (9, .pointer (some ⟨b9, 0, none⟩)), (10, .pointer (some ⟨b10, 0, none⟩)), (13, .bool true), (14, .slice p0 ny k0)] → WpV Tryz.prog none 201 (.region 5 ?o false) ?K T (⟨b10, 0, .cel 34, [.int .i64 r.a, .int .i64 r.b, .int .i64 r.c, .int .i64 r.d]⟩ :: ⟨b9, 0, .cel 33, c.cells⟩ :: ⟨b8, 0, .cel 31, X.cells (.slice qx X.slots.length ex)⟩ :: M)) → _) ?rest
 case main =>
  refine regO gV2_ok ?_
  rcases Nat.lt_or_ge 12 s0.length with h12 | h12
  · have g1 : (12 : Int) < (s0.length : Int) := by omega
    have g2 : (12 : Int) ≤ (k0 : Int) := by omega
    have g3 : 12 ≤ k0 := by omega
    simp only [push_cast, seval, reduceCtorEq, g1, g2, g3]
    refine rest 12 (s0.take 12) _ (StR.take h0 (by omega)) (by rw [List.length_take]; omega) (Nat.le_refl _) (fun y hy => List.mem_of_mem_take hy) ?_
    obtain ⟨b0, o0, rfl⟩ : ∃ b o, p0 = some ⟨b, o, none⟩ := by
     obtain ⟨L, h1, h2, -⟩ := id h0
     obtain ⟨p, k, h3, h4⟩ := h2
     injection h3 with h5 h6 h7
     rcases h4 with h4 | ⟨b, o, h4, -⟩
     · rw [h4] at h1; rw [← h1] at h12; simp at h12
     · exact ⟨b, o, h5.trans h4⟩
    have hsa : slAddr (some ⟨b0, o0, none⟩) k0 0 27 = some ⟨b0, o0, none⟩ := by
     unfold slAddr
     split
     · rfl
     · simp
    simp only [push_cast, seval, reduceCtorEq, hsa]
  · have g1 : ¬ (12 : Int) < (s0.length : Int) := by omega
    simp only [push_cast, seval, reduceCtorEq, g1]
    refine rest _ s0 _ h0 rfl h12 (fun y hy => hy) ?_
    simp only [push_cast, seval, reduceCtorEq]
 rintro ny Y T hY hYl hYn hYs hT
 refine WpV.slots _ hT ?_
 clear hT
 refine regO gV2_ok ?_
 simp only [push_cast, seval, reduceCtorEq, hb9, hb10]
 refine useL [_, _, _] hst (StR.rd _) hm ⟨f10, f9, hb8, trivial⟩ fun w M1 hg1 hL1 hq1 => ?_
 obtain ⟨ps, ks, rfl⟩ := hq1.slice
 obtain ⟨g10, g9, g8, -⟩ := id hL1
 have hk1 : KonR M1 := hg1.ext.keep _ _ _ _ hk
 have hY1 := hY.ext hg1.ext
 have hX1 := hX.ext hg1.ext
 have hm1 := hg1.marks
 simp only [push_cast, seval, reduceCtorEq, hb9, hb10, im, j4, ← hmq, hni]
 refine loopO gV2_ok (pl := plST) Tryz.mix (X := Nat × Value × Hp)
  (fun s => ([(5, .int .i64 many), (8, .pointer (some ⟨b8, 0, none⟩)), (9, .pointer (some ⟨b9, 0, none⟩)), (10, .pointer (some ⟨b10, 0, none⟩)), (13, .bool true), (14, .slice p0 ny k0), (15, .slice ps S.length ks), (16, s.2.1), (17, .int .i64 s.1)], s.2.2 ++ (⟨b10, 0, .cel 34, [.int .i64 r.a, .int .i64 r.b, .int .i64 r.c, .int .i64 r.d]⟩ :: ⟨b9, 0, .cel 33, c.cells⟩ :: ⟨b8, 0, .cel 31, X.cells (.slice qx X.slots.length ex)⟩ :: M1)))
  (fun s => s.1 ≤ n ∧ OutC 31 27 ((longP s.1).flatMap acC) (longP s.1).length s.2.1 s.2.2 ∧ freshN s.2.2 (⟨b10, 0, .cel 34, [.int .i64 r.a, .int .i64 r.b, .int .i64 r.c, .int .i64 r.d]⟩ :: ⟨b9, 0, .cel 33, c.cells⟩ :: ⟨b8, 0, .cel 31, X.cells (.slice qx X.slots.length ex)⟩ :: M1)) (fun s => n - s.1) (0, .slice none 0 0, []) ?_ ?_ (by kernel_rfl) ?_
 · exact ⟨Nat.zero_le _, .nil _ _, trivial⟩
 · simp only [push_cast, seval, reduceCtorEq, hb9, hb10]
 · rintro ⟨i, vo, No⟩ ⟨hi, ho, hfo⟩
   dsimp only at hi ho hfo ⊢
   rcases Nat.lt_or_ge i n with hlt | hge
   · have e1 : (i : Int) < (n : Int) := by omega
     have i8 : IntKind.u8.wrap (i : Int) = (i : Int) := wrap_u8' (by omega)
     obtain ⟨po, ko, rfl⟩ := ho.slice
     have hli := longP_len i
     simp only [push_cast, seval, reduceCtorEq, hb9, hb10, im, j4, ← hmq, hni, e1, hlt, i8, ← ac9_cells (show i < 256 by omega)]
     intro b61 hb61
     refine push_outA (P := Tryz.prog) (c := acC) (x := (ac9 i, .slice none 0 0)) (by_ := 104) (q := 27) (ag := true) [] ho ⟨(fresh_app_iff.1 hb61).1, trivial⟩ (by simp only [push_cast, seval, reduceCtorEq]) (by simp only [push_cast, seval, reduceCtorEq]) (acC_len _) (Ac.all1 _ _ rfl) (by unfold two47; omega) fun v' N' ho' hf' => ?_
     simp only [push_cast, seval, reduceCtorEq, wrap_i64' (show -9223372036854775808 ≤ (i : Int) + 1 ∧ (i : Int) + 1 ≤ 9223372036854775807 by omega), List.nil_append]
     exact ⟨(i + 1, v', N'), ⟨hlt, by dsimp only; rw [longP_succ]; exact ho', freshN_cons hf'⟩, by dsimp only; omega, ⟨rfl, rfl⟩, subH_pre (subH_cons (fresh_app_iff.1 hb61).2) N', by simp only [marks_append, marksOf, ho.wr.2, ho'.wr.2]⟩
   · obtain rfl : i = n := by omega
     obtain ⟨po, ko, rfl⟩ := ho.slice
     obtain ⟨l10, l9, l8, lM⟩ := (⟨(freshN_sym hfo).1, (freshN_sym hfo).2.1, (freshN_sym hfo).2.2.1, freshN_iff.2 fun e he x hx => freshN_iff.1 hfo e he x (List.mem_cons_of_mem _ (List.mem_cons_of_mem _ (List.mem_cons_of_mem _ hx)))⟩ : fresh b10 No ∧ fresh b9 No ∧ fresh b8 No ∧ freshN No M1)
     have mN := ho.wr.2
     have eM : Ext M1 (No ++ M1) := Ext.rightN lM mN hm1
     have hm2 : marksOf (No ++ M1) = [] := eM.marks
     have hlg : StR (longL i) (.slice po (longP i).length ko) (No ++ M1) := ⟨longP i, rfl, ho.liR rfl rfl M1, fun x hx => by
      obtain ⟨j, -, rfl⟩ := List.mem_map.1 hx
      exact LiR.nil _ 0⟩
     have hlgn := longL_len i
     have hlpn := longP_len i
     have hS2 := hq1.ext eM
     have hY2 := hY1.ext eM
     have hX2 := hX1.ext eM
     have hk2 : KonR (No ++ M1) := eM.keep _ _ _ _ hk1
     have h10 : fresh b10 (No ++ M1) := fresh_app_iff.2 ⟨l10, g10⟩
     have h9 : fresh b9 (No ++ M1) := fresh_app_iff.2 ⟨l9, g9⟩
     have h8 : fresh b8 (No ++ M1) := fresh_app_iff.2 ⟨l8, g8⟩
     simp only [push_cast, seval, reduceCtorEq, hb9, hb10, im, j4, ← hmq, hni, Int.lt_irrefl, Nat.lt_irrefl]
     refine WpV.perm (H' := ⟨b10, 0, .cel 34, [.int .i64 r.a, .int .i64 r.b, .int .i64 r.c, .int .i64 r.d]⟩ :: ⟨b9, 0, .cel 33, c.cells⟩ :: ⟨b8, 0, .cel 31, X.cells (.slice qx X.slots.length ex)⟩ :: (No ++ M1)) ?_ ?_ ?_
     · classical
       refine List.perm_iff_count.2 fun a => ?_
       simp only [List.count_append, List.count_cons]
       omega
     · simp only [marksOf, marks_append]
     obtain ⟨M2, hM2⟩ : ∃ M2, M2 = No ++ M1 := ⟨_, rfl⟩
     rw [← hM2] at hm2 hlg hS2 hY2 hX2 hk2 h10 h9 h8 ⊢
     clear ho hfo l10 l9 l8 lM eM hM2 hq1 hY1 hX1 hk1 g10 g9 g8
     refine regO gV2_ok ?_
     simp only [push_cast, seval, reduceCtorEq, hb9, hb10]
     intro b66 hb66
     have h66 : fresh b66 M2 := hb66.2.2.2.2.2.2
     refine loopO gV2_ok (pl := plST) Tryz.mix (X := Nat)
      (fun k => ([(8, .pointer (some ⟨b8, 0, none⟩)), (9, .pointer (some ⟨b9, 0, none⟩)), (10, .pointer (some ⟨b10, 0, none⟩)), (13, .bool true), (14, .slice p0 ny k0), (15, .slice ps S.length ks), (66, .slice (some ⟨b66, 0, none⟩) 3 3), (67, .int .i64 3), (68, .int .i64 k)], ⟨b66, 0, .vec 22 1 3, [.slice p0 ny k0, .slice ps S.length ks, .slice po (longP i).length ko]⟩ :: ⟨b10, 0, .cel 34, [.int .i64 r.a, .int .i64 r.b, .int .i64 r.c, .int .i64 r.d]⟩ :: ⟨b9, 0, .cel 33, c.cells⟩ :: ⟨b8, 0, .cel 31, X.cells (.slice qx X.slots.length ex)⟩ :: M2))
      (fun k => k ≤ 3) (fun k => 3 - k) 0 ?_ ?_ (by kernel_rfl) ?_
     · exact Nat.zero_le _
     · simp only [push_cast, seval, reduceCtorEq, hb9, hb10, hb66]
       try exact subH_self _
     · intro k hk3
       by_cases hc3 : k < 3
       · have c1 : (k : Int) < 3 := by omega
         have c2 : k + 1 ≤ 3 := by omega
         obtain ⟨l, pl, nl, kl, hat, hl, hln, hls⟩ : ∃ (l : List Ac) (pl : Option Addr) (nl kl : Nat), List.take 1 (List.drop k [.slice p0 ny k0, .slice ps S.length ks, .slice po (longP i).length ko]) = [Value.slice pl nl kl] ∧ StR l (.slice pl nl kl) M2 ∧ l.length ≤ 1000 ∧ ∀ y ∈ l, y.slots.length ≤ 2199023255551 := by
          rcases (by omega : k = 0 ∨ k = 1 ∨ k = 2) with rfl | rfl | rfl
          · exact ⟨Y, _, _, _, rfl, hY2, by omega, fun y hy => h0s y (hYs y hy)⟩
          · exact ⟨S, _, _, _, rfl, hS2, by have := hf.len; omega, hf.ri.slN⟩
          · exact ⟨longL i, _, _, _, rfl, hlg, by omega, longL_sl i⟩
         obtain ⟨rw3, hrw3⟩ : ∃ x, x = [Value.slice p0 ny k0, .slice ps S.length ks, .slice po (longP i).length ko] := ⟨_, rfl⟩
         have rwl : rw3.length = 3 := by rw [hrw3]; rfl
         rw [← hrw3] at hat ⊢
         simp only [push_cast, seval, reduceCtorEq, hb9, hb10, hb66, c1, c2, hat, rwl]
         have xt27 : List.take 27 (X.cells (.slice qx X.slots.length ex)) = X.cells (.slice qx X.slots.length ex) := List.take_of_length_le (Nat.le_of_eq xg6)
         have hL4 : freshN [⟨b66, 0, .vec 22 1 3, rw3⟩, ⟨b10, 0, .cel 34, [.int .i64 r.a, .int .i64 r.b, .int .i64 r.c, .int .i64 r.d]⟩, ⟨b9, 0, .cel 33, c.cells⟩, ⟨b8, 0, .cel 31, X.cells (.slice qx X.slots.length ex)⟩] M2 := ⟨h66, h10, h9, h8, trivial⟩
         refine drawO gV2_ok Tryz.mix (Tryz.pl3 14) (by kernel_rfl) ?_
         simp only [push_cast, seval, reduceCtorEq, hb9, hb10, hb66]
         refine takeP8 [_, _, _, _] (sright_N hl (by omega)) hL4 ?_
         simp only [push_cast, seval, reduceCtorEq, hb9, hb10, hb66]
         refine takeP8 [_, _, _, _] (refright_N hl (by omega) hls) hL4 ?_
         have n1 : (rightS l != rightS l) = false := bne_self_eq_false _
         have n2 : (decide (l = S) != decide (l = S)) = false := bne_self_eq_false _
         have n3 : (emptyA X != emptyA X) = false := bne_self_eq_false _
         obtain ⟨B1, hB1⟩ : ∃ b, b = rightS l := ⟨_, rfl⟩
         obtain ⟨B2, hB2⟩ : ∃ b, b = decide (l = S) := ⟨_, rfl⟩
         obtain ⟨B3, hB3⟩ : ∃ b, b = emptyA X := ⟨_, rfl⟩
         rw [← hB1] at n1 ⊢
         rw [← hB2] at n2
         rw [← hB3] at n3
         simp only [push_cast, seval, reduceCtorEq, hb9, hb10, hb66, n1]
         refine takeP8 [_, _, _, _] (v := .bool B2) (hB2 ▸ ssame_R hl hS2 (by omega) (by have := hf.len; omega) hls) hL4 ?_
         simp only [push_cast, seval, reduceCtorEq, hb9, hb10, hb66, n1]
         refine takeP8 [_, _, _, _] (v := .bool B2) (hB2 ▸ refsame_N hl hS2 (by omega) (by have := hf.len; omega) hls hf.ri.slN) hL4 ?_
         simp only [push_cast, seval, reduceCtorEq, hb9, hb10, hb66, n1, n2, xall, xg6, xt27]
         refine takeP8 [_, _, _, _] (v := .bool B3) (hB3 ▸ empty_N hX2) hL4 ?_
         simp only [push_cast, seval, reduceCtorEq, hb9, hb10, hb66, n1, n2, xall, xg6, xt27]
         refine takeP8 [_, _, _, _] (v := .bool B3) (hB3 ▸ refempty_N hX2) hL4 ?_
         simp only [push_cast, seval, reduceCtorEq, hb9, hb10, hb66, n1, n2, n3, xall, xg6, xt27]
         clear n1 n2 n3 hB1 hB2 hB3
         refine drawO gV2_ok Tryz.mix (Tryz.pl3 16) (by kernel_rfl) ?_
         have aA := (addrA r.b).len
         have aX := X.at_.len
         simp only [push_cast, seval, reduceCtorEq, hb9, hb10, hb66, xg6, xg1, i2]
         simp only [two_ad X.at_ (addrA r.b) (z := [.int .u8 0, .int .u8 0, .int .u8 0, .int .u8 0, .int .u8 0, .int .u8 0, .int .u8 0, .int .u8 0, .int .u8 0, .int .u8 0, .int .u8 0, .int .u8 0, .int .u8 0, .int .u8 0, .int .u8 0, .int .u8 0, .int .u8 0, .int .u8 0, .int .u8 0, .int .u8 0]) rfl]
         intro b98 hb98
         have h98 : fresh b98 M2 := hb98.2.2.2.2.2.2.2.2
         simp only [push_cast, seval, reduceCtorEq, hb9, hb10, hb66, hb98]
         have rAl : (X.at_.cells ++ (addrA r.b).cells).length = 40 := by rw [List.length_append, X.at_.len, (addrA r.b).len]
         have htwo := fun (q : Nat) (h : q < 2) => two_at X.at_ (addrA r.b) h
         obtain ⟨rA, hrA⟩ : ∃ x, x = X.at_.cells ++ (addrA r.b).cells := ⟨_, rfl⟩
         rw [← hrA] at rAl ⊢
         simp only [← hrA] at htwo
         clear hrA
         have hL5 : freshN [⟨b98, 0, .vec 25 20 2, rA⟩, ⟨b66, 0, .vec 22 1 3, rw3⟩, ⟨b10, 0, .cel 34, [.int .i64 r.a, .int .i64 r.b, .int .i64 r.c, .int .i64 r.d]⟩, ⟨b9, 0, .cel 33, c.cells⟩, ⟨b8, 0, .cel 31, X.cells (.slice qx X.slots.length ex)⟩] M2 := ⟨h98, h66, h10, h9, h8, trivial⟩
         obtain ⟨Z, hZ⟩ : ∃ Z : Hp, Z = [⟨b98, 0, .vec 25 20 2, rA⟩, ⟨b66, 0, .vec 22 1 3, rw3⟩, ⟨b10, 0, .cel 34, [.int .i64 r.a, .int .i64 r.b, .int .i64 r.c, .int .i64 r.d]⟩, ⟨b9, 0, .cel 33, c.cells⟩, ⟨b8, 0, .cel 31, X.cells (.slice qx X.slots.length ex)⟩] ++ M2 := ⟨_, rfl⟩
         have fZ98 : findE Z b98 = some ⟨b98, 0, .vec 25 20 2, rA⟩ := by rw [hZ]; simp [findE]
         have mZ : marksOf Z = [] := by rw [hZ]; exact hm2
         have fZM : ∀ b e, findE M2 b = some e → findE Z b = some e := by rw [hZ]; exact find_behind hL5
         refine loopO gV2_ok (pl := plST) Tryz.mix (X := Nat)
          (fun q => ([(8, .pointer (some ⟨b8, 0, none⟩)), (9, .pointer (some ⟨b9, 0, none⟩)), (10, .pointer (some ⟨b10, 0, none⟩)), (13, .bool true), (14, .slice p0 ny k0), (15, .slice ps S.length ks), (19, .slice pl nl kl), (66, .slice (some ⟨b66, 0, none⟩) 3 3), (67, .int .i64 3), (68, .int .i64 k), (98, .slice (some ⟨b98, 0, none⟩) 2 2), (99, .int .i64 2), (100, .int .i64 q)], Z))
          (fun q => q ≤ 2) (fun q => 2 - q) 0 ?_ ?_ (by kernel_rfl) ?_
         · exact Nat.zero_le _
         · rw [hZ]
           simp only [push_cast, seval, reduceCtorEq, hb9, hb10, hb66, hb98]
           try exact subH_self _
         · intro q hq3
           by_cases hcq : q < 2
           · have q1 : (q : Int) < 2 := by omega
             have q2 : q * 20 + 20 ≤ 40 := by omega
             obtain ⟨A, hA⟩ := htwo q hcq
             have At : List.take 20 A.cells = A.cells := List.take_of_length_le (Nat.le_of_eq A.len)
             simp only [push_cast, seval, reduceCtorEq, mZ, fZ98, q1, hcq, hA, rAl, q2, A.len]
             intro b21 hb21
             have hA21 : freshN [⟨b21, 0, .cel 25, A.cells⟩] Z := ⟨hb21, trivial⟩
             refine drawO gV2_ok Tryz.mix (Tryz.pl3 19) (by kernel_rfl) ?_
             simp only [push_cast, seval, reduceCtorEq, At, A.len]
             have fY : ∀ b e, findE M2 b = some e → findE (⟨b21, 0, .cel 25, A.cells⟩ :: Z) b = some e := fun b e h => find_behind hA21 b e (fZM b e h)
             refine callS (M := M2) (sfind_ok (a := A) hl (by omega) hls) (AcR.rd _) fY fun v N hN1 hN2 hfN hq => ?_
             obtain ⟨sv1, rfl, hs1⟩ := hq
             have fN21 : findE (N ++ ⟨b21, 0, .cel 25, A.cells⟩ :: Z) b21 = some ⟨b21, 0, .cel 25, A.cells⟩ := find_behindN hfN b21 _ (by simp [findE])
             have sN : subH (N ++ ⟨b21, 0, .cel 25, A.cells⟩ :: Z) (⟨b21, 0, .cel 25, A.cells⟩ :: Z) := subH_new _ N fun e he x hx => freshN_iff.1 hfN e he x hx
             simp only [push_cast, seval, reduceCtorEq, fN21, At, A.len]
             refine ⟨sN.2, ?_⟩
             have fY2 : ∀ b e, findE M2 b = some e → findE (N ++ ⟨b21, 0, .cel 25, A.cells⟩ :: Z) b = some e := fun b e h => find_behindN hfN b e (fY b e h)
             refine callS (M := M2) (refFind_ok (a := A) hl (by omega) hls) (AcR.rd _) fY2 fun v N2 hN3 hN4 hfN2 hq2 => ?_
             obtain ⟨sv2, rfl, hs2⟩ := hq2
             obtain ⟨F, hF⟩ : ∃ F, F = findS l A := ⟨_, rfl⟩
             have hFs : F.slots.length ≤ 2199023255551 := by
              rw [hF]
              rcases findS_cases l A with ⟨h1, -⟩ | h1
              · rw [h1]; exact Nat.zero_le _
              · exact hls _ h1
             rw [← hF] at hs1 hs2 ⊢
             obtain ⟨Y1, hY1⟩ : ∃ Y1, Y1 = N ++ (⟨b21, 0, .cel 25, A.cells⟩ :: Z : Hp) := ⟨_, rfl⟩
             have hs1' : LiR Sl.cells 8 (N2 ++ Y1) F.slots sv1 := by
              rw [hY1]
              exact hs1.find fun b e h => find_behindN (hY1 ▸ hfN2) b e (find_front fY b e h)
             have hs2' : LiR Sl.cells 8 (N2 ++ Y1) F.slots sv2 := by
              rw [hY1]
              exact hs2.find (find_front fY2)
             have mY1 : marksOf Y1 = [] := by rw [hY1, marks_append, hN2]; exact mZ
             have mY2 : marksOf (N2 ++ Y1) = [] := by rw [marks_append, hN4, mY1]; rfl
             rw [← hY1] at hfN2 ⊢
             have sN2 : subH (N2 ++ Y1) Y1 := subH_new _ N2 fun e he x hx => freshN_iff.1 hfN2 e he x hx
             have sZ : subH (N2 ++ Y1) Z := by
              rw [hY1, show N2 ++ (N ++ (⟨b21, 0, .cel 25, A.cells⟩ :: Z : Hp)) = (N2 ++ (N ++ [⟨b21, 0, .cel 25, A.cells⟩])) ++ Z by simp]
              refine subH_new _ _ fun e he x hx => ?_
              rcases List.mem_append.1 he with h | h
              · exact freshN_iff.1 (hY1 ▸ hfN2) e h x (List.mem_append_right _ (List.mem_cons_of_mem _ hx))
              · rcases List.mem_append.1 h with h | h
                · exact freshN_iff.1 hfN e h x (List.mem_cons_of_mem _ hx)
                · rw [List.mem_singleton.1 h]
                  exact fresh_ne hb21 x hx
             simp only [push_cast, seval, reduceCtorEq, sN2]
             refine takeP8 [] (M := N2 ++ Y1) (sameac_N hs1' hs2' hFs) trivial ?_
             simp only [push_cast, seval, reduceCtorEq, wrap_i64' (show -9223372036854775808 ≤ (q : Int) + 1 ∧ (q : Int) + 1 ≤ 9223372036854775807 by omega)]
             exact ⟨q + 1, hcq, by omega, rfl, sZ, mY2.symm⟩
           · obtain rfl : q = 2 := by omega
             rw [hZ]
             simp only [push_cast, seval, reduceCtorEq, hb9, hb10, hb66, hb98]
             have lS : (setS l X).1.length ≤ 3000 := by have := setS_ln (x := X) hln; omega
             have bS := setS_bd (x := X) hls
             refine useL [_, _, _, _, _] (sset_R hl hX2 (by omega)) (SetR.rd _) hm2 hL5 fun w M3 hg3 hL3 hq3 => ?_
             obtain ⟨w, rfl, hs3⟩ := hq3
             obtain ⟨pw, kw, rfl⟩ := hs3.slice
             have hl3 := hl.ext hg3.ext
             have hX3 := hX2.ext hg3.ext
             simp only [push_cast, seval, reduceCtorEq, hb9, hb10, hb66, hb98, xall, xg6, xt27]
             refine useL [_, _, _, _, _] (refSet_R hl3 hX3 (by omega) hls hXn) (SetR.rd _) hg3.marks hL3 fun w M4 hg4 hL4' hq4 => ?_
             obtain ⟨w, rfl, hs4⟩ := hq4
             obtain ⟨pu, ku, rfl⟩ := hs4.slice
             have hs3' := hs3.ext hg4.ext
             have nE : ((setS l X).2 != (setS l X).2) = false := bne_self_eq_false _
             obtain ⟨R, hR⟩ : ∃ R, R = setS l X := ⟨_, rfl⟩
             rw [← hR] at lS bS hs3 hs3' hs4 nE ⊢
             obtain ⟨R1, R2⟩ := R
             dsimp only at lS bS hs3 hs3' hs4 nE ⊢
             simp only [push_cast, seval, reduceCtorEq, hb9, hb10, hb66, hb98, nE]
             refine useP [_, _, _, _, _] (v := .bool true) (fun MB hr he => by
              have := refsame_N hs3' hs4 (by omega) (by omega) bS bS MB hr he
              rwa [decide_eq_true rfl] at this) hL4' ?_
             simp only [push_cast, seval, reduceCtorEq, hb9, hb10, hb66, hb98, nE]
             have ct : List.take 31 c.cells = c.cells := List.take_of_length_le (Nat.le_of_eq c.len)
             refine drawO gV2_ok Tryz.mix (Tryz.pl3 26) (by kernel_rfl) ?_
             simp only [push_cast, seval, reduceCtorEq, hb9, hb10, hb66, hb98, i1, i2, i3, i4, ct, c.len, c.all1]
             have hr0 : ({ a := r.a, b := r.b, c := r.c, d := r.d } : R4) = r := rfl
             simp only [hr0, two_ch c (chR r) (z := [.int .i64 0, .int .u8 0, .int .u8 0, .int .u8 0, .int .u8 0, .int .u8 0, .int .u8 0, .int .u8 0, .int .u8 0, .int .u8 0, .int .u8 0, .int .u8 0, .int .u8 0, .int .u8 0, .int .u8 0, .int .u8 0, .int .u8 0, .int .u8 0, .int .u8 0, .int .u8 0, .int .u8 0, .int .u64 0, .int .u64 0, .int .u64 0, .int .u64 0, .int .u64 0, .int .u64 0, .int .u64 0, .int .u64 0, .int .i64 0, .string ByteArray.empty]) rfl]
             intro b137 hb137
             have hg24 : Gr M2 M4 := hg3.trans hg4
             obtain ⟨i98, i66, i10, i9, i8', -⟩ := id hL4'
             have i137 : fresh b137 M4 := hb137.2.2.2.2.2.2.2.2.2.2
             have cAl : (c.cells ++ (chR r).cells).length = 62 := by rw [List.length_append, c.len, (chR r).len]
             have htwo2 := fun (q : Nat) (h : q < 2) => two_chat c (chR r) h
             obtain ⟨rC, hrC⟩ : ∃ x, x = c.cells ++ (chR r).cells := ⟨_, rfl⟩
             rw [← hrC] at cAl
             simp only [← hrC] at htwo2 ⊢
             clear hrC
             simp only [push_cast, seval, reduceCtorEq, hb9, hb10, hb66, hb98, hb137]
             have hL6 : freshN [⟨b137, 0, .vec 33 31 2, rC⟩, ⟨b98, 0, .vec 25 20 2, rA⟩, ⟨b66, 0, .vec 22 1 3, rw3⟩, ⟨b10, 0, .cel 34, [.int .i64 r.a, .int .i64 r.b, .int .i64 r.c, .int .i64 r.d]⟩, ⟨b9, 0, .cel 33, c.cells⟩, ⟨b8, 0, .cel 31, X.cells (.slice qx X.slots.length ex)⟩] M4 := ⟨i137, i98, i66, i10, i9, i8', trivial⟩
             obtain ⟨Z4, hZ4⟩ : ∃ Z : Hp, Z = [⟨b137, 0, .vec 33 31 2, rC⟩, ⟨b98, 0, .vec 25 20 2, rA⟩, ⟨b66, 0, .vec 22 1 3, rw3⟩, ⟨b10, 0, .cel 34, [.int .i64 r.a, .int .i64 r.b, .int .i64 r.c, .int .i64 r.d]⟩, ⟨b9, 0, .cel 33, c.cells⟩, ⟨b8, 0, .cel 31, X.cells (.slice qx X.slots.length ex)⟩] ++ M4 := ⟨_, rfl⟩
             have fZ4 : findE Z4 b137 = some ⟨b137, 0, .vec 33 31 2, rC⟩ := by rw [hZ4]; simp [findE]
             have mZ4 : marksOf Z4 = [] := by rw [hZ4]; exact hg4.marks
             have hlZ : StR l (.slice pl nl kl) Z4 := by rw [hZ4]; exact StR.app (hl3.ext hg4.ext) hL6
             refine loopO gV2_ok (pl := plST) Tryz.mix (X := Nat)
              (fun q => ([(8, .pointer (some ⟨b8, 0, none⟩)), (9, .pointer (some ⟨b9, 0, none⟩)), (10, .pointer (some ⟨b10, 0, none⟩)), (13, .bool true), (14, .slice p0 ny k0), (15, .slice ps S.length ks), (19, .slice pl nl kl), (66, .slice (some ⟨b66, 0, none⟩) 3 3), (67, .int .i64 3), (68, .int .i64 k), (137, .slice (some ⟨b137, 0, none⟩) 2 2), (138, .int .i64 2), (139, .int .i64 q)], Z4))
              (fun q => q ≤ 2) (fun q => 2 - q) 0 ?_ ?_ (by kernel_rfl) ?_
             · exact Nat.zero_le _
             · rw [hZ4]
               simp only [push_cast, seval, reduceCtorEq, hb9, hb10, hb66, hb98, hb137]
               try exact subH_self _
             · intro q hq3
               by_cases hcq : q < 2
               · have q1 : (q : Int) < 2 := by omega
                 have q2 : q * 31 + 31 ≤ 62 := by omega
                 obtain ⟨D, hD⟩ := htwo2 q hcq
                 have Dt : List.take 31 D.cells = D.cells := List.take_of_length_le (Nat.le_of_eq D.len)
                 simp only [push_cast, seval, reduceCtorEq, mZ4, fZ4, q1, hcq, hD, cAl, q2, D.len, D.all1]
                 intro b27 hb27
                 try simp only [push_cast, seval, reduceCtorEq, Dt, D.len, D.all1]
                 refine useL [_] (sdo_R (c := D) hlZ (by omega) hls) (DoR.rd _) mZ4 ⟨hb27, trivial⟩ fun w M5 hg5 hL5' hq5 => ?_
                 obtain ⟨w, rfl, hs5⟩ := hq5
                 obtain ⟨p5, k5, rfl⟩ := hs5.slice
                 have lD := doS_ln (c := D) hln
                 have bD := doS_bd (c := D) hls
                 obtain ⟨R, hR⟩ : ∃ R, R = doS l D := ⟨_, rfl⟩
                 rw [← hR] at lD bD hs5 ⊢
                 obtain ⟨R1, U, R2⟩ := R
                 dsimp only at lD bD hs5 ⊢
                 have nE : (R2 != R2) = false := bne_self_eq_false _
                 have g27 : fresh b27 M5 := hL5'.1
                 simp only [push_cast, seval, reduceCtorEq, U.len, U.all1]
                 intro b29 hb29
                 try simp only [push_cast, seval, reduceCtorEq, hb29, Dt, D.len, D.all1, U.len, U.all1]
                 have hlM5 := hlZ.ext hg5.ext
                 have g29 : fresh b29 M5 := hb29.2.2
                 refine useL [_, _] (refDo_R (c := D) hlM5 (by omega) hls) (DoR.rd _) hg5.marks ⟨g29, g27, trivial⟩ fun w M6 hg6 hL6' hq6 => ?_
                 rw [← hR] at hq6
                 obtain ⟨w, rfl, hs6⟩ := hq6
                 dsimp only at hs6
                 obtain ⟨p6, k6, rfl⟩ := hs6.slice
                 have hs5' := hs5.ext hg6.ext
                 simp only [push_cast, seval, reduceCtorEq, hb29, Dt, D.len, D.all1, U.len, U.all1]
                 intro b32 hb32
                 obtain ⟨u29, u27, -⟩ := id hL6'
                 have u32 : fresh b32 M6 := hb32.2.2.2.2
                 try simp only [push_cast, seval, reduceCtorEq, hb29, hb32, Dt, D.len, D.all1, U.len, U.all1]
                 refine useP [_, _, _] (v := .bool true) (fun MB hr he => by
                  have := refsame_N hs5' hs6 (by omega) (by omega) bD bD MB hr he
                  rwa [decide_eq_true rfl] at this) ⟨u32, u29, u27, trivial⟩ ?_
                 have Ut : List.take 31 U.cells = U.cells := List.take_of_length_le (Nat.le_of_eq U.len)
                 simp only [push_cast, seval, reduceCtorEq, hb29, hb32, Dt, D.len, D.all1, U.len, U.all1, Ut, nE, wrap_i64' (show -9223372036854775808 ≤ (q : Int) + 1 ∧ (q : Int) + 1 ≤ 9223372036854775807 by omega)]
                 exact ⟨q + 1, hcq, by omega, rfl, subH_gr (N := [_, _, _]) ⟨u32, u29, u27, trivial⟩ (hg5.trans hg6), hg6.marks.symm⟩
               · obtain rfl : q = 2 := by omega
                 rw [hZ4]
                 simp only [push_cast, seval, reduceCtorEq, hb9, hb10, hb66, hb98, hb137, wrap_i64' (show -9223372036854775808 ≤ (k : Int) + 1 ∧ (k : Int) + 1 ≤ 9223372036854775807 by omega)]
                 have j137 : fresh b137 M2 := by
                  obtain ⟨-, N9, h9, -, -⟩ := id hg24
                  exact (fresh_app_iff.1 (h9 ▸ i137)).1
                 refine ⟨k + 1, hc3, by omega, rfl, ?_, by rw [hm2, hg4.marks]⟩
                 rw [subH_skip j137, subH_skip h98]
                 exact subH_gr (N := []) trivial hg24
       · obtain rfl : k = 3 := by omega
         simp only [push_cast, seval, reduceCtorEq, hb9, hb10, hb66]
         intro b175 hb175
         have h175 : fresh b175 M2 := hb175.2.2.2.2.2.2.2.2
         refine loopO gV2_ok (pl := plST) Tryz.mix (X := Nat)
          (fun k => ([(13, .bool true), (175, .slice (some ⟨b175, 0, none⟩) 2 2), (176, .int .i64 2), (177, .int .i64 k)], ⟨b175, 0, .vec 22 1 2, [.slice p0 ny k0, .slice ps S.length ks]⟩ :: M2))
          (fun k => k ≤ 2) (fun k => 2 - k) 0 ?_ ?_ (by kernel_rfl) ?_
         · exact Nat.zero_le _
         · have z66 : fresh b66 M2 := h66
           simp only [push_cast, seval, reduceCtorEq, hb9, hb10, hb66, hb175]
           rw [subH_skip h10, subH_skip h9, subH_skip h8]
           exact subH_self _
         · intro k hk3
           by_cases hc3 : k < 2
           · have c1 : (k : Int) < 2 := by omega
             have c2 : k + 1 ≤ 2 := by omega
             obtain ⟨l, pl, nl, kl, hat, hl, hln, hls, hlc⟩ : ∃ (l : List Ac) (pl : Option Addr) (nl kl : Nat), List.take 1 (List.drop k [.slice p0 ny k0, .slice ps S.length ks]) = [Value.slice pl nl kl] ∧ StR l (.slice pl nl kl) M2 ∧ l.length ≤ 1000 ∧ (∀ y ∈ l, y.slots.length ≤ 2199023255551) ∧ ∀ y ∈ l, -9223372036854775808 ≤ y.nonce ∧ y.nonce ≤ 9223372036854775807 := by
              rcases (by omega : k = 0 ∨ k = 1) with rfl | rfl
              · exact ⟨Y, _, _, _, rfl, hY2, by omega, fun y hy => h0s y (hYs y hy), fun y hy => h0n y (hYs y hy)⟩
              · exact ⟨S, _, _, _, rfl, hS2, by have := hf.len; omega, hf.ri.slN, fun y hy => by have := mayA_iff.1 (hf.ri.may y hy); omega⟩
             obtain ⟨rw2, hrw2⟩ : ∃ x, x = [Value.slice p0 ny k0, .slice ps S.length ks] := ⟨_, rfl⟩
             have rwl : rw2.length = 2 := by rw [hrw2]; rfl
             rw [← hrw2] at hat ⊢
             simp only [push_cast, seval, reduceCtorEq, c1, c2, hat, rwl]
             refine useP [_] (digest_any hk2 hl (by omega) hlc) ⟨h175, trivial⟩ ?_
             simp only [push_cast, seval, reduceCtorEq, c1, c2, hat, rwl]
             refine useP [_] (refdigest_R hl (by omega) hls hlc) ⟨h175, trivial⟩ ?_
             obtain ⟨⟨D1, D2⟩, hD⟩ : ∃ D, D = digR l := ⟨_, rfl⟩
             rw [← hD]
             dsimp only
             have nE : (D2 != D2) = false := bne_self_eq_false _
             have nS : ((bs D1).toList != (bs D1).toList) = false := bne_self_eq_false _
             simp only [push_cast, seval, reduceCtorEq, c1, c2, hat, rwl, nE, nS, wrap_i64' (show -9223372036854775808 ≤ (k : Int) + 1 ∧ (k : Int) + 1 ≤ 9223372036854775807 by omega)]
             exact ⟨k + 1, hc3, by omega, rfl⟩
           · obtain rfl : k = 2 := by omega
             simp only [push_cast, seval, reduceCtorEq]
end Go.Proofs.YtpcjmmdgopihcaaGreatDoor
