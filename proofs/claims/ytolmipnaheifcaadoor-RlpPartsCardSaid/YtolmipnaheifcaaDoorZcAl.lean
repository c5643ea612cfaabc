/- Texts of this claim, merged by program: Om Rj On Op. -/
import Derived.Test.YtolmipnaheifcaaDoorZcAk
import Derived.Test.YtolmipnaheifcaaDoorZcAg
set_option linter.unusedSimpArgs false
set_option linter.unusedVariables false
namespace Go.Ev
theorem flatMap_cut6 {α : Type} {c : α → List Value} {s : Nat} (hs : ∀ x, (c x).length = s) (l : List α) {lo hi : Nat} (h1 : lo ≤ hi) (h2 : hi ≤ l.length) : ((l.take hi).drop lo).flatMap c = ((l.flatMap c).drop (lo * s)).take ((hi - lo) * s) := by
  have e0 : l = l.take lo ++ ((l.take hi).drop lo ++ l.drop hi) := by
    have e1 : l.take hi = l.take lo ++ (l.take hi).drop lo := by
      have := (List.take_append_drop lo (l.take hi)).symm
      rwa [List.take_take, Nat.min_eq_left h1] at this
    rw [← List.append_assoc, ← e1, List.take_append_drop]
  have l1 : ((l.take lo).flatMap c).length = lo * s := by rw [flatMap_len hs, List.length_take, Nat.min_eq_left (by omega)]
  have l2 : (((l.take hi).drop lo).flatMap c).length = (hi - lo) * s := by rw [flatMap_len hs, List.length_drop, List.length_take, Nat.min_eq_left h2]
  conv => rhs; rw [e0]
  rw [List.flatMap_append, List.flatMap_append, List.drop_append_of_le_length (Nat.le_of_eq l1.symm), List.drop_of_length_le (Nat.le_of_eq l1), List.nil_append, List.take_append_of_le_length (Nat.le_of_eq l2.symm), List.take_of_length_le (Nat.le_of_eq l2)]
theorem LiR.cut6 {α : Type} {c : α → List Value} {s : Nat} {H : Hp} {l : List α} {p : Option Addr} {n k : Nat} (hs : ∀ x, (c x).length = s) (h : LiR c s H l (.slice p n k)) {lo hi : Nat} (h1 : lo ≤ hi) (h2 : hi ≤ n) (h3 : hi ≤ k) :
    LiR c s H ((l.take hi).drop lo) (.slice (slAddr p k lo s) (hi - lo) (k - lo)) := by
  obtain ⟨p', k', hv, h⟩ := h
  cases hv
  have hl : ((l.take hi).drop lo).length = hi - lo := by rw [List.length_drop, List.length_take, Nat.min_eq_left h2]
  refine ⟨_, k - lo, by rw [hl], ?_⟩
  by_cases he : lo = hi
  · exact .inl (List.length_eq_zero_iff.1 (by rw [hl]; omega))
  rcases h with rfl | ⟨b, o, rfl, h⟩
  · simp at h2; omega
  refine .inr ⟨b, o + lo * s, by unfold slAddr; rw [if_neg (by omega)], ?_⟩
  obtain ⟨e, hf⟩ := cellsAt_findS h
  unfold cellsAt at h ⊢
  rw [hf] at h ⊢
  dsimp only at h ⊢
  split at h
  case isFalse => cases h
  rename_i ho
  rw [if_pos (by omega)]
  unfold subL at h ⊢
  split at h
  case isFalse => cases h
  rename_i hle
  have hcs := Option.some.inj h
  have hm : lo * s + (hi - lo) * s ≤ l.length * s := by rw [← Nat.add_mul]; exact Nat.mul_le_mul_right s (by omega)
  rw [hl, if_pos (by omega), flatMap_cut6 hs l h1 h2, ← hcs, List.drop_take, List.take_take, List.drop_drop, show o + lo * s - e.off = o - e.off + lo * s by omega, Nat.min_eq_left (by omega)]
theorem subH_left6 (N : Hp) : ∀ M : Hp, subH (M ++ N) M
  | [] => trivial
  | e :: r => by
    refine ⟨by simp [findE], ?_⟩
    simp only [List.cons_append, remE, if_true]
    exact subH_left6 N r
theorem Gr.subH6 {M M' : Hp} (h : Gr M M') : subH M' M := by
  obtain ⟨_, N, rfl, _, _⟩ := h
  exact subH_left6 N M
theorem rep_bytes6 (z : Nat) : bytesOf (repV z [.int .u8 0]) = some (List.replicate z 0) := by
  have : repV z [.int .u8 0] = byteV (List.replicate z 0) := by
    unfold repV byteV
    rw [List.map_replicate]
    induction z with
    | zero => rfl
    | succ n ih => rw [List.replicate_succ, List.flatten_cons, ih, List.replicate_succ]; rfl
  rw [this]
  exact bytesOf_byteV _
theorem cellsAt_pre6 {A B : Hp} (h : cellsAt A = cellsAt B) (N : Hp) : cellsAt (N ++ A) = cellsAt (N ++ B) := by
  funext b o n
  have h2 := congrFun (congrFun (congrFun h b) o) n
  unfold cellsAt at h2 ⊢
  rw [findE_app, findE_app]
  cases findE N b with
  | some e => rfl
  | none => exact h2
theorem done6 {M M1 N : Hp} (L : Hp) {Q : Value → Hp → Prop} {v : Value} (hg : Gr M M1) (hw : allWr N) (hn : marksOf N = []) (hQ : RdOnly Q) (hq : Q v (N ++ M1)) : ∃ H', H'.Sublist (L ++ dropM (N ++ M1)) ∧ NewK M Q v H' := by
  obtain ⟨h1, N2, rfl, h2, h3⟩ := hg
  refine ⟨N ++ N2, ?_, allWr_app hw h2, by rw [marks_append, hn, h3]; rfl, fun hf => ?_⟩
  · rw [dropM_eq (by rw [marks_append, marks_append, hn, h1, h3]; rfl)]
    exact ((List.Sublist.refl N).append (List.sublist_append_right M N2)).trans (List.sublist_append_right L _)
  · rw [List.append_assoc]
    exact hQ v _ _ (cellsAt_pre6 (cellsAt_swap (freshN_appL.1 hf).2).symm N) hq
def ItemQ (d : Nat) (raw : List (Int × Int)) : Value → Hp → Prop := fun v H => ∃ y, v = Iv.v y ∧ y.it = itemB d raw ∧ IvOk H y
theorem ItemQ.rd (d : Nat) (raw : List (Int × Int)) : RdOnly (ItemQ d raw) := fun v A B h ⟨y, h1, h2, h3⟩ => ⟨y, h1, h2, h3.congr h⟩
end Go.Ev
namespace Go.Proofs.YtolmipnaheifcaaDoor
open Go Go.Ev Go.Proofs
set_option maxRecDepth 100000
set_option maxHeartbeats 20000000
attribute [-push_cast] evAppend_nil evAppend_some slAddr
def CapOk (v : Value) : Prop := ∃ p n k, v = .slice p n k ∧ n ≤ k
def plIT : Plans := fun i => if i = 10 then [] else if i = 12 then [] else if i = 14 then [] else if i = 17 then [] else if i = 8 then [] else Tryd.pl10 i
attribute [push_cast] plIT
theorem item6_step (d : Nat) (hd : d ≤ 10) (hsub : ∀ d', d = d' + 1 → ∀ (raw : List (Int × Int)) (v : Value) (M : Hp), LiR prI 2 M raw v → CapOk v → (∀ x ∈ raw, i64In x.1 ∧ i64In x.2) → raw.length ≤ 9223372036854775807 → CallsR Tryd.prog 10 [v, .int .i64 (d' : Int)] M (ItemQ d' raw))
    (raw : List (Int × Int)) (v : Value) (M : Hp) (hv : LiR prI 2 M raw v) (hcap : CapOk v) (hin : ∀ x ∈ raw, i64In x.1 ∧ i64In x.2) (hlen : raw.length ≤ 9223372036854775807) :
    CallsR Tryd.prog 10 [v, .int .i64 (d : Int)] M (ItemQ d raw) := by
  intro M0 hr he
  have hm := hr.marks
  replace hv := hv.congr he.symm
  obtain ⟨p, k, rfl, -⟩ := id hv
  obtain ⟨p', n', k', hcv, hnk⟩ := hcap
  cases hcv
  obtain ⟨m, hm9⟩ : ∃ m, m = min raw.length 9 := ⟨_, rfl⟩
  have hmI : (if 9 < (raw.length : Int) then 9 else (raw.length : Int)) = (m : Int) := by split <;> omega
  have m1 : m ≤ raw.length := by omega
  have m2 : m ≤ 9 := by omega
  have m3 : m ≤ k := by omega
  have m3' : (m : Int) ≤ (k : Int) := by omega
  have hv9 := LiR.cut6 (c := prI) (s := 2) (fun _ => rfl) hv (lo := 0) (hi := m) (Nat.zero_le _) m1 m3
  rw [List.drop_zero, Nat.sub_zero, Nat.sub_zero] at hv9
  obtain ⟨q, hq⟩ : ∃ q, q = slAddr p k 0 2 := ⟨_, rfl⟩
  rw [← hq] at hv9
  obtain ⟨w, hw⟩ : ∃ w, w = raw.take m := ⟨_, rfl⟩
  rw [← hw] at hv9
  have wl : w.length = m := by rw [hw, List.length_take]; omega
  have hw9 : raw.take 9 = w := by
    rw [hw, hm9]
    rcases Nat.le_total raw.length 9 with h | h
    · rw [Nat.min_eq_left h, List.take_length, List.take_of_length_le h]
    · rw [Nat.min_eq_right h]
  have hinw : ∀ x ∈ w, i64In x.1 ∧ i64In x.2 := fun x hx => hin x (List.mem_of_mem_take (by rw [← hw]; exact hx))
  rw [show (m : Nat) = w.length from wl.symm] at hv9
  obtain ⟨q', k2, hqe, hat⟩ := LiR.openC (c := prI) (s := 2) (fun _ => rfl) (by decide) hv9
  cases hqe
  obtain ⟨R, hR⟩ : ∃ R, R = goB (rawSub d) 9 w := ⟨_, rfl⟩
  have hQ : itemB d raw = .mk true [] R := by rw [itemB_eq, hw9, hR]
  refine callsO gO7_ok Tryd.mix plIT Tryd.func10 rfl Tryd.ntmps10 Tryd.results10 rfl (by first | rfl | assumption) (Nat.le_of_ble_eq_true rfl) (by kernel_rfl) ?_
  simp only [push_cast, seval, reduceCtorEq]
  intro b4 hb4 b5 hb5
  simp only [push_cast, seval, reduceCtorEq, hmI, m3', hq.symm]
  refine loopO gO7_ok (pl := plIT) Tryd.mix (X := {x : ((Nat × Nat) × (List Iv × Value)) × (Hp × Hp) // Gr M0 x.2.2 ∧ freshN x.2.1 x.2.2 ∧ fresh b5 (x.2.1 ++ x.2.2) ∧ fresh b4 (x.2.1 ++ x.2.2)})
    (fun x => ([(0, .slice q m k), (1, .int .i64 (d : Int)), (4, .pointer (some ⟨b4, 0, none⟩)), (5, .pointer (some ⟨b5, 0, none⟩)), (6, .int .i64 (x.1.1.1.1 : Int))],
      ⟨b5, 0, .cel 29, [.bool true, .string ByteArray.empty, x.1.1.2.2]⟩ :: ⟨b4, 0, .cel 29, [.bool false, .string ByteArray.empty, .slice none 0 0]⟩ :: (x.1.2.1 ++ x.1.2.2)))
    (fun x => x.1.1.2.1.map Iv.it ++ goB (rawSub d) x.1.1.1.2 (w.drop x.1.1.1.1) = R ∧ m - x.1.1.1.1 ≤ x.1.1.1.2 ∧ x.1.1.2.1.length + x.1.1.1.2 ≤ 9 ∧ x.1.1.1.1 ≤ 20 ∧ OutG 29 3 (x.1.1.2.1.flatMap Iv.cells) x.1.1.2.1.length x.1.1.2.2 x.1.2.1 ∧ (∀ y ∈ x.1.1.2.1, IvOk x.1.2.2 y))
    (fun x => m - x.1.1.1.1) ⟨(((0, 9), ([], .slice none 0 0)), ([], M0)), ⟨Gr.refl hm, trivial, hb5.2.2, hb4⟩⟩ ?_ ?_ (by kernel_rfl) ?_
  · exact ⟨hR.symm, by dsimp only; omega, Nat.le_refl _, Nat.zero_le _, .inl ⟨rfl, rfl, rfl, rfl⟩, fun y hy => absurd hy (by simp)⟩
  · simp only [push_cast, seval, reduceCtorEq]
    trace_state
  · rintro ⟨⟨⟨⟨i, f⟩, ⟨ks, sv⟩⟩, ⟨N, M1⟩⟩, hg1, hNM, q5, q4⟩ ⟨hgo, hf, hkf, hi20, ho, hok⟩
    dsimp only at hg1 hNM q5 q4 hgo hf hkf hi20 ho hok ⊢
    obtain ⟨pk, ck, rfl⟩ := ho.slice
    rcases Nat.lt_or_ge i m with hlt | hge
    · have i1 : (i : Int) < (m : Int) := by omega
      obtain ⟨x, hx⟩ : ∃ x, w[i]? = some x := ⟨w[i]'(by omega), List.getElem?_eq_getElem (by omega)⟩
      rcases hat with hl0 | ⟨b, fo, dd, kd, cs, rfl, he', hat⟩
      · rw [hl0] at wl; simp at wl; omega
      obtain ⟨x1, x2⟩ := x
      obtain ⟨hx1, hx2⟩ := hinw (x1, x2) (List.mem_of_getElem? hx)
      dsimp only at hx1 hx2
      have hee : findE (N ++ M1) b = some ⟨b, fo, kd, cs⟩ := find_behind hNM _ _ (hg1.find he')
      have nb5 := (fresh_findS q5 hee).2
      have nb4 := (fresh_findS q4 hee).2
      obtain ⟨a1, a2⟩ := hat i (x1, x2) hx
      have k0 : List.take 1 (List.drop (dd + i * 2) cs) = [.int .i64 x1] := by
        have := congrArg (List.take 1) a2
        rw [List.take_take] at this
        exact this
      have k1 : List.take 1 (List.drop (dd + i * 2 + 1) cs) = [.int .i64 x2] := by
        have := congrArg (List.drop 1) a2
        rw [List.drop_take, List.drop_drop] at this
        exact this
      have o1 : fo ≤ fo + dd + i * 2 + 1 := by omega
      have o1' : fo ≤ fo + dd + i * 2 := by omega
      have o2 : fo + dd + i * 2 + 1 - fo = dd + i * 2 + 1 := by omega
      have o2' : fo + dd + i * 2 - fo = dd + i * 2 := by omega
      have o3 : dd + i * 2 + 1 + 1 ≤ cs.length := by omega
      have o3' : dd + i * 2 + 1 ≤ cs.length := by omega
      have b1 := i64B_in hx1
      have b2 := i64B_in hx2
      have b6 : i64B 6 = true := i64B_in (by decide)
      have p6 : posB 6 = true := posB_in (by decide)
      have hpk := pickN_lt x1 (show (0 : Int) < 6 by decide)
      have hd0 : w.drop i = (x1, x2) :: w.drop (i + 1) := by
        obtain ⟨h1, h2⟩ := List.getElem?_eq_some_iff.1 hx
        rw [List.drop_eq_getElem_cons h1, h2]
      obtain ⟨f', rfl⟩ : ∃ f', f = f' + 1 := ⟨f - 1, by omega⟩
      rw [hd0, goB] at hgo
      obtain ⟨pc, hpc⟩ : ∃ pc, pc = pickN x1 6 := ⟨_, rfl⟩
      rw [← hpc] at hpk
      simp only [← hpc] at hgo
      simp only [push_cast, seval, reduceCtorEq, i1, hlt, hb5, hee, nb5, nb4, o1, o1', o2, o2', o3, o3', k0, k1, b1, b2, b6, p6, ← hpc]
      obtain rfl | rfl | rfl | rfl | rfl | rfl : pc = 0 ∨ pc = 1 ∨ pc = 2 ∨ pc = 3 ∨ pc = 4 ∨ pc = 5 := by omega
      · have c0 : (((0 : Nat) : Int) == 0) = true := rfl
        rw [if_pos rfl] at hgo
        simp only [push_cast, seval, reduceCtorEq, c0]
        refine drawO gO7_ok Tryd.mix (Tryd.pl10 10) (by kernel_rfl) ?_
        obtain ⟨hx2a, hx2b⟩ := hx2
        simp only [push_cast, seval, reduceCtorEq, hb5, hx2a, hx2b]
        intro bq hbq
        have nbq : fresh bq (N ++ M1) := hbq.2.2.2.2
        simp only [push_cast, seval, reduceCtorEq, hb5, hbq, hx2a, hx2b]
        refine push_hA (P := Tryd.prog) (c := Iv.cells) (x := Iv.mk false (numL (W.ofInt x2)) (.slice none 0 0) []) [_, _] (by_ := 48) (q := 3) (ag := true) ho ⟨(fresh_app_iff.1 nbq).1, (fresh_app_iff.1 q5).1, (fresh_app_iff.1 q4).1, trivial⟩ (by simp only [push_cast, seval, reduceCtorEq]) (by simp only [push_cast, seval, reduceCtorEq]) rfl rfl (by unfold two47; omega) fun v3 N3 ho4 hf4 => ?_
        obtain ⟨Y, hY⟩ : ∃ Y, Y = Iv.mk false (numL (W.ofInt x2)) (.slice none 0 0) [] := ⟨_, rfl⟩
        have hYi : Y.it = .mk false (numL (W.ofInt x2)) [] := by rw [hY]; simp only [Iv.it, Iv.its]
        rw [← hY] at ho4
        obtain ⟨p3, k3, hv3⟩ := ho4.slice
        subst hv3
        rcases ho4 with ⟨r1, -⟩ | ⟨bu, cu, r3, r4, r5, hN3⟩
        · rw [List.length_append] at r1; simp at r1
        obtain ⟨hq3, -⟩ := (show freshN [⟨bu, 0, .vec 29 3 cu, (ks ++ [Y]).flatMap Iv.cells⟩] _ from hN3 ▸ hf4)
        rw [hN3]
        have hbu := hq3
        simp only [push_cast, seval, reduceCtorEq] at hbu
        obtain ⟨u0, w0, u5, u5', u4, u4', uM⟩ := hbu
        have hbu' : ¬ bu = bq ∧ ¬ bq = bu ∧ ¬ bu = b5 ∧ ¬ b5 = bu ∧ ¬ bu = b4 ∧ ¬ b4 = bu := ⟨u0, w0, u5, u5', u4, u4'⟩
        have hl2 : (ks ++ [Y]).length = ks.length + 1 := by simp
        simp only [push_cast, seval, reduceCtorEq, hb5, hbq, hbu', wrap_i64' (show -9223372036854775808 ≤ (i : Int) + 1 ∧ (i : Int) + 1 ≤ 9223372036854775807 by omega)]
        refine ⟨⟨(((i + 1, f'), (ks ++ [Y], .slice p3 (ks ++ [Y]).length k3)), ([⟨bu, 0, .vec 29 3 cu, (ks ++ [Y]).flatMap Iv.cells⟩], M1)), hg1, ⟨uM, trivial⟩, ⟨u5', u5, (fresh_app_iff.1 q5).2⟩, ⟨u4', u4, (fresh_app_iff.1 q4).2⟩⟩, ⟨?_, by dsimp only; omega, by dsimp only; omega, by dsimp only; omega, .inr ⟨bu, cu, r3, r4, r5, rfl⟩, fun z hz => ?_⟩, by dsimp only; omega, rfl, ⟨by dsimp only; rw [hl2], ?_⟩, rfl⟩
        · dsimp only
          rw [List.map_append, List.map_cons, List.map_nil, List.append_assoc, hYi]
          exact hgo
        · rcases List.mem_append.1 hz with hz | hz
          · exact hok z hz
          · rw [List.mem_singleton.1 hz, hY]; exact IvOk.text _ _ _ _
        · refine ⟨by simp [findE], ?_⟩
          simp only [remE, if_true]
          exact subH_skip6 (fresh_app_iff.1 nbq).2 (subH_self M1)
      · have c0 : (((1 : Nat) : Int) == 0) = false := rfl
        have c1 : (((1 : Nat) : Int) == 1) = true := rfl
        rw [if_neg (by decide), if_pos rfl] at hgo
        simp only [push_cast, seval, reduceCtorEq, c0, c1]
        refine drawO gO7_ok Tryd.mix [(0, 0), (1, 0), (2, 0), (3, 0), (4, 2), (5, 2), (6, 0), (7, 2), (8, 1), (9, 0), (10, 1)] (by kernel_rfl) ?_
        have b70 : i64B 70 = true := i64B_in (by decide)
        have p70 : posB 70 = true := posB_in (by decide)
        have hz := pickN_lt x2 (show (0 : Int) < 70 by decide)
        obtain ⟨z, hz'⟩ : ∃ z, z = pickN x2 70 := ⟨_, rfl⟩
        rw [← hz'] at hz hgo
        have z1 : (0 : Int) ≤ (z : Int) := by omega
        have z2 : (z : Int) ≤ ((two47 : Nat) : Int) := by unfold two47; omega
        have z3 : (z : Int) * 1 ≤ ((two47 : Nat) : Int) := by unfold two47; omega
        have z4 : (z : Int) ≤ (z : Int) := Int.le_refl _
        have hz8 : z ≤ 100 := by omega
        have rz := rep_bytes6 z
        simp only [push_cast, seval, reduceCtorEq, hb5, b2, b70, p70, ← hz', z1, z2, z3, z4]
        intro bz hbz
        have nbz : fresh bz (N ++ M1) := hbz.2.2.2.2
        have rl : (repV z [.int .u8 0]).length = z := by rw [repV_length]; simp
        have rt : List.take z (repV z [.int .u8 0]) = repV z [.int .u8 0] := List.take_of_length_le (Nat.le_of_eq rl)
        have zz : z ≤ z := Nat.le_refl _
        have hif : (if z = 0 then some (Value.string ByteArray.empty) else some (Value.string (bs (List.replicate z 0)))) = some (Value.string (bs (List.replicate z 0))) := by
          by_cases z0 : z = 0
          · rw [if_pos z0, z0]; rfl
          · rw [if_neg z0]
        simp only [push_cast, seval, reduceCtorEq, hb5, hbz, rz, rl, rt, zz, bs_mk, hif]
        intro bq hbq
        have nbq : fresh bq (N ++ M1) := hbq.2.2.2.2.2.2
        simp only [push_cast, seval, reduceCtorEq, hb5, hbz, hbq]
        refine push_hA (P := Tryd.prog) (c := Iv.cells) (x := Iv.mk false (List.replicate z 0) (.slice none 0 0) []) [_, _, _] (by_ := 48) (q := 3) (ag := true) ho ⟨(fresh_app_iff.1 nbq).1, (fresh_app_iff.1 nbz).1, (fresh_app_iff.1 q5).1, (fresh_app_iff.1 q4).1, trivial⟩ (by simp only [push_cast, seval, reduceCtorEq]) (by simp only [push_cast, seval, reduceCtorEq]) rfl rfl (by unfold two47; omega) fun v3 N3 ho4 hf4 => ?_
        obtain ⟨Y, hY⟩ : ∃ Y, Y = Iv.mk false (List.replicate z 0) (.slice none 0 0) [] := ⟨_, rfl⟩
        have hYi : Y.it = .mk false (List.replicate z 0) [] := by rw [hY]; simp only [Iv.it, Iv.its]
        rw [← hY] at ho4
        obtain ⟨p3, k3, hv3⟩ := ho4.slice
        subst hv3
        rcases ho4 with ⟨r1, -⟩ | ⟨bu, cu, r3, r4, r5, hN3⟩
        · rw [List.length_append] at r1; simp at r1
        obtain ⟨hq3, -⟩ := (show freshN [⟨bu, 0, .vec 29 3 cu, (ks ++ [Y]).flatMap Iv.cells⟩] _ from hN3 ▸ hf4)
        rw [hN3]
        have hbu := hq3
        simp only [push_cast, seval, reduceCtorEq] at hbu
        obtain ⟨u0, w0, u1, w1, u5, u5', u4, u4', uM⟩ := hbu
        have hbu' : ¬ bu = bq ∧ ¬ bq = bu ∧ ¬ bu = bz ∧ ¬ bz = bu ∧ ¬ bu = b5 ∧ ¬ b5 = bu ∧ ¬ bu = b4 ∧ ¬ b4 = bu := ⟨u0, w0, u1, w1, u5, u5', u4, u4'⟩
        have hl2 : (ks ++ [Y]).length = ks.length + 1 := by simp
        simp only [push_cast, seval, reduceCtorEq, hb5, hbq, hbz, hbu', wrap_i64' (show -9223372036854775808 ≤ (i : Int) + 1 ∧ (i : Int) + 1 ≤ 9223372036854775807 by omega)]
        refine ⟨⟨(((i + 1, f'), (ks ++ [Y], .slice p3 (ks ++ [Y]).length k3)), ([⟨bu, 0, .vec 29 3 cu, (ks ++ [Y]).flatMap Iv.cells⟩], M1)), hg1, ⟨uM, trivial⟩, ⟨u5', u5, (fresh_app_iff.1 q5).2⟩, ⟨u4', u4, (fresh_app_iff.1 q4).2⟩⟩, ⟨?_, by dsimp only; omega, by dsimp only; omega, by dsimp only; omega, .inr ⟨bu, cu, r3, r4, r5, rfl⟩, fun z hz => ?_⟩, by dsimp only; omega, rfl, ⟨by dsimp only; rw [hl2], ?_⟩, rfl⟩
        · dsimp only
          rw [List.map_append, List.map_cons, List.map_nil, List.append_assoc, hYi]
          exact hgo
        · rcases List.mem_append.1 hz with hz | hz
          · exact hok z hz
          · rw [List.mem_singleton.1 hz, hY]; exact IvOk.text _ _ _ _
        · refine ⟨by simp [findE], ?_⟩
          simp only [remE, if_true]
          exact subH_skip6 (fresh_app_iff.1 nbq).2 (subH_skip6 (fresh_app_iff.1 nbz).2 (subH_self M1))
      · have c0 : (((2 : Nat) : Int) == 0) = false := rfl
        have c1 : (((2 : Nat) : Int) == 1) = false := rfl
        have c2 : (((2 : Nat) : Int) == 2) = true := rfl
        rw [if_neg (by decide), if_neg (by decide), if_pos rfl] at hgo
        simp only [push_cast, seval, reduceCtorEq, c0, c1, c2]
        refine drawO gO7_ok Tryd.mix [(0, 0), (1, 0), (2, 0), (3, 0), (4, 0), (5, 2), (6, 2), (7, 0), (8, 2), (9, 1), (10, 0), (11, 1)] (by kernel_rfl) ?_
        have b256 : i64B 256 = true := i64B_in (by decide)
        have p256 : posB 256 = true := posB_in (by decide)
        have hz := pickN_lt x2 (show (0 : Int) < 256 by decide)
        obtain ⟨z, hz'⟩ : ∃ z, z = pickN x2 256 := ⟨_, rfl⟩
        unfold byteI at hgo
        rw [← hz'] at hz hgo
        have wz := u8_wrapN z
        obtain ⟨c, hc⟩ : ∃ c, c = UInt8.ofNat z := ⟨_, rfl⟩
        rw [← hc] at wz hgo
        have hbc : bytesOf [.int .u8 (c.toNat : Int)] = some [c] := bytesOf_byteV [c]
        have dog : catB { data := #[100, 111, 103] } (bs [c]) = some (.string (bs [100, 111, 103, c])) := ncatB [100, 111, 103] [c] (by show 3 + 1 ≤ _; omega)
        simp only [push_cast, seval, reduceCtorEq, hb5, b2, b256, p256, ← hz', wz]
        intro bz hbz
        have nbz : fresh bz (N ++ M1) := hbz.2.2.2.2
        simp only [push_cast, seval, reduceCtorEq, hb5, hbz, hbc, bs_mk]
        intro bq hbq
        have nbq : fresh bq (N ++ M1) := hbq.2.2.2.2.2.2
        simp only [push_cast, seval, reduceCtorEq, hb5, hbz, hbq]
        refine push_hA (P := Tryd.prog) (c := Iv.cells) (x := Iv.mk false [c] (.slice none 0 0) []) [_, _, _] (by_ := 48) (q := 3) (ag := true) ho ⟨(fresh_app_iff.1 nbq).1, (fresh_app_iff.1 nbz).1, (fresh_app_iff.1 q5).1, (fresh_app_iff.1 q4).1, trivial⟩ (by simp only [push_cast, seval, reduceCtorEq]) (by simp only [push_cast, seval, reduceCtorEq]) rfl rfl (by unfold two47; omega) fun v3 N3 ho4 hf4 => ?_
        obtain ⟨Y, hY⟩ : ∃ Y, Y = Iv.mk false [c] (.slice none 0 0) [] := ⟨_, rfl⟩
        have hYi : Y.it = .mk false [c] [] := by rw [hY]; simp only [Iv.it, Iv.its]
        rw [← hY] at ho4
        obtain ⟨p3, k3, hv3⟩ := ho4.slice
        subst hv3
        rcases ho4 with ⟨r1, -⟩ | ⟨bu, cu, r3, r4, r5, hN3⟩
        · rw [List.length_append] at r1; simp at r1
        obtain ⟨hq3, -⟩ := (show freshN [⟨bu, 0, .vec 29 3 cu, (ks ++ [Y]).flatMap Iv.cells⟩] _ from hN3 ▸ hf4)
        rw [hN3]
        have hbu := hq3
        simp only [push_cast, seval, reduceCtorEq] at hbu
        obtain ⟨u0, w0, u1, w1, u5, u5', u4, u4', uM⟩ := hbu
        have hbu' : ¬ bu = bq ∧ ¬ bq = bu ∧ ¬ bu = bz ∧ ¬ bz = bu ∧ ¬ bu = b5 ∧ ¬ b5 = bu ∧ ¬ bu = b4 ∧ ¬ b4 = bu := ⟨u0, w0, u1, w1, u5, u5', u4, u4'⟩
        have hl2 : (ks ++ [Y]).length = ks.length + 1 := by simp
        simp only [push_cast, seval, reduceCtorEq, hb5, hbq, hbz, hbu', wrap_i64' (show -9223372036854775808 ≤ (i : Int) + 1 ∧ (i : Int) + 1 ≤ 9223372036854775807 by omega)]
        refine ⟨⟨(((i + 1, f'), (ks ++ [Y], .slice p3 (ks ++ [Y]).length k3)), ([⟨bu, 0, .vec 29 3 cu, (ks ++ [Y]).flatMap Iv.cells⟩], M1)), hg1, ⟨uM, trivial⟩, ⟨u5', u5, (fresh_app_iff.1 q5).2⟩, ⟨u4', u4, (fresh_app_iff.1 q4).2⟩⟩, ⟨?_, by dsimp only; omega, by dsimp only; omega, by dsimp only; omega, .inr ⟨bu, cu, r3, r4, r5, rfl⟩, fun z hz => ?_⟩, by dsimp only; omega, rfl, ⟨by dsimp only; rw [hl2], ?_⟩, rfl⟩
        · dsimp only
          rw [List.map_append, List.map_cons, List.map_nil, List.append_assoc, hYi]
          exact hgo
        · rcases List.mem_append.1 hz with hz | hz
          · exact hok z hz
          · rw [List.mem_singleton.1 hz, hY]; exact IvOk.text _ _ _ _
        · refine ⟨by simp [findE], ?_⟩
          simp only [remE, if_true]
          exact subH_skip6 (fresh_app_iff.1 nbq).2 (subH_skip6 (fresh_app_iff.1 nbz).2 (subH_self M1))
      · have c0 : (((3 : Nat) : Int) == 0) = false := rfl
        have c1 : (((3 : Nat) : Int) == 1) = false := rfl
        have c2 : (((3 : Nat) : Int) == 2) = false := rfl
        have c3 : (((3 : Nat) : Int) == 3) = true := rfl
        rw [if_neg (by decide), if_neg (by decide), if_neg (by decide), if_pos rfl] at hgo
        cases d with
        | zero =>
          have e0 : ¬ (0 : Int) < ((0 : Nat) : Int) := by decide
          replace hgo : List.map Iv.it ks ++ goB (rawSub 0) f' (List.drop (i + 1) w) = R := hgo
          simp only [push_cast, seval, reduceCtorEq, c0, c1, c2, c3, e0, wrap_i64' (show -9223372036854775808 ≤ (i : Int) + 1 ∧ (i : Int) + 1 ≤ 9223372036854775807 by omega)]
          exact ⟨⟨(((i + 1, f'), (ks, .slice pk ks.length ck)), (N, M1)), hg1, hNM, q5, q4⟩, ⟨hgo, by dsimp only; omega, by dsimp only; omega, by dsimp only; omega, ho, hok⟩, by dsimp only; omega, rfl, ⟨rfl, subH_self _⟩, rfl⟩
        | succ d' =>
          have e0 : (0 : Int) < ((d' + 1 : Nat) : Int) := by omega
          have e1 : IntKind.i64.wrap (((d' + 1 : Nat) : Int) - 1) = (d' : Int) := by rw [show ((d' + 1 : Nat) : Int) - 1 = (d' : Int) by omega]; exact IntWalk.i64_in _ (by omega)
          replace hgo : List.map Iv.it ks ++ (itemB d' (List.drop (i + 1) w) :: goB (rawSub (d' + 1)) f' (List.drop (pickN x2 4) (List.drop (i + 1) w))) = R := hgo
          have e0n : 0 < d' + 1 := Nat.succ_pos d'
          simp only [push_cast, seval, reduceCtorEq, c0, c1, c2, c3, e0, e0n]
          refine drawO gO7_ok Tryd.mix (Tryd.pl10 17) (by kernel_rfl) ?_
          have j1 : (i : Int) + 1 ≤ (m : Int) := by omega
          have j2 : i + 1 ≤ m := by omega
          have hvw : LiR prI 2 M1 w (.slice (some ⟨b, fo + dd, none⟩) m k) := by rw [← wl]; exact hv9.ext hg1.ext
          have hvs := LiR.cut6 (c := prI) (s := 2) (fun _ => rfl) hvw (lo := i + 1) (hi := m) j2 (Nat.le_refl _) m3
          rw [show w.take m = w from List.take_of_length_le (by omega)] at hvs
          have j0 : (0 : Int) ≤ (i : Int) + 1 := by omega
          have j3 : ((i : Int) + 1).toNat = i + 1 := by omega
          have e1' : IntKind.i64.wrap (d' : Int) = (d' : Int) := IntWalk.i64_in _ (by omega)
          simp only [push_cast, seval, reduceCtorEq, hb5, e1', j0, j1, j2, j3, wrap_i64' (show -9223372036854775808 ≤ (i : Int) + 1 ∧ (i : Int) + 1 ≤ 9223372036854775807 by omega)]
          refine useL (_ :: _ :: N) (hsub d' rfl (w.drop (i + 1)) _ M1 hvs ⟨_, _, _, rfl, by omega⟩ (fun y hy => hinw y (List.mem_of_mem_drop hy)) (by rw [List.length_drop]; omega)) (ItemQ.rd _ _) hg1.marks ⟨(fresh_app_iff.1 q5).2, (fresh_app_iff.1 q4).2, hNM⟩ fun v M2 hg2 hL2 hq2 => ?_
          obtain ⟨y, rfl, hy1, hy2⟩ := hq2
          obtain ⟨yl, yb, yv, yks⟩ := y
          obtain ⟨yp, yc, hsy, -⟩ := id hy2.li
          replace hsy : yv = .slice yp yks.length yc := hsy
          subst hsy
          have hyv : (Iv.mk yl yb (.slice yp yks.length yc) yks).v = .agg #[.bool yl, .string (bs yb), .slice yp yks.length yc] := rfl
          obtain ⟨g5, g4, hNM2⟩ := hL2
          have q5' : fresh b5 (N ++ M2) := fresh_appS (fresh_app_iff.1 q5).1 g5
          have q4' : fresh b4 (N ++ M2) := fresh_appS (fresh_app_iff.1 q4).1 g4
          have hg2' := hg1.trans hg2
          have hok2 : ∀ y ∈ ks, IvOk M2 y := fun y hy => (hok y hy).ext hg2.ext
          refine ⟨subH_pre (A := _ :: _ :: (N ++ M2)) (B := _ :: _ :: (N ++ M1)) (subH_pre (hg2.subH6) (_ :: _ :: N)) [], ?_⟩
          simp only [push_cast, seval, reduceCtorEq, hb5, hyv]
          intro bq hbq
          have nbq : fresh bq (N ++ M2) := hbq.2.2.2.2
          simp only [push_cast, seval, reduceCtorEq, hb5, hbq]
          have b4' : i64B 4 = true := i64B_in (by decide)
          have p4 : posB 4 = true := posB_in (by decide)
          have hz := pickN_lt x2 (show (0 : Int) < 4 by decide)
          obtain ⟨z, hz'⟩ : ∃ z, z = pickN x2 4 := ⟨_, rfl⟩
          rw [← hz', List.drop_drop, show i + 1 + z = i + z + 1 by omega] at hgo
          rw [← hz'] at hz
          refine push_hA (P := Tryd.prog) (c := Iv.cells) (x := Iv.mk yl yb (.slice yp yks.length yc) yks) [_, _] (by_ := 48) (q := 3) (ag := true) ho ⟨(fresh_app_iff.1 nbq).1, (fresh_app_iff.1 q5').1, (fresh_app_iff.1 q4').1, trivial⟩ (by simp only [push_cast, seval, reduceCtorEq]) (by simp only [push_cast, seval, reduceCtorEq]) rfl rfl (by unfold two47; omega) fun v3 N3 ho4 hf4 => ?_
          obtain ⟨Y, hY⟩ : ∃ Y, Y = Iv.mk yl yb (.slice yp yks.length yc) yks := ⟨_, rfl⟩
          have hYi : Y.it = itemB d' (w.drop (i + 1)) := by rw [hY]; exact hy1
          rw [← hY] at ho4
          obtain ⟨p3, k3, hv3⟩ := ho4.slice
          subst hv3
          rcases ho4 with ⟨r1, -⟩ | ⟨bu, cu, r3, r4, r5, hN3⟩
          · rw [List.length_append] at r1; simp at r1
          obtain ⟨hq3, -⟩ := (show freshN [⟨bu, 0, .vec 29 3 cu, (ks ++ [Y]).flatMap Iv.cells⟩] _ from hN3 ▸ hf4)
          rw [hN3]
          have hbu := hq3
          simp only [push_cast, seval, reduceCtorEq] at hbu
          obtain ⟨u0, w0, u5, u5', u4, u4', uM⟩ := hbu
          have hbu' : ¬ bu = bq ∧ ¬ bq = bu ∧ ¬ bu = b5 ∧ ¬ b5 = bu ∧ ¬ bu = b4 ∧ ¬ b4 = bu := ⟨u0, w0, u5, u5', u4, u4'⟩
          have hl2 : (ks ++ [Y]).length = ks.length + 1 := by simp
          simp only [push_cast, seval, reduceCtorEq, hb5, hbq, hbu', wrap_i64' (show -9223372036854775808 ≤ (i : Int) + (z : Int) ∧ (i : Int) + (z : Int) ≤ 9223372036854775807 by omega), wrap_i64' (show -9223372036854775808 ≤ (i : Int) + (z : Int) + 1 ∧ (i : Int) + (z : Int) + 1 ≤ 9223372036854775807 by omega), b2, b4', p4, ← hz']
          refine ⟨⟨(((i + z + 1, f'), (ks ++ [Y], .slice p3 (ks ++ [Y]).length k3)), ([⟨bu, 0, .vec 29 3 cu, (ks ++ [Y]).flatMap Iv.cells⟩], M2)), hg2', ⟨uM, trivial⟩, ⟨u5', u5, (fresh_app_iff.1 q5').2⟩, ⟨u4', u4, (fresh_app_iff.1 q4').2⟩⟩, ⟨?_, by dsimp only; omega, by dsimp only; omega, by dsimp only; omega, .inr ⟨bu, cu, r3, r4, r5, rfl⟩, fun z hz => ?_⟩, by dsimp only; omega, rfl, ⟨by dsimp only; rw [hl2], ?_⟩, rfl⟩
          · dsimp only
            rw [List.map_append, List.map_cons, List.map_nil, List.append_assoc, hYi]
            exact hgo
          · rcases List.mem_append.1 hz with hz | hz
            · exact hok2 z hz
            · rw [List.mem_singleton.1 hz, hY]; exact hy2
          · refine ⟨by simp [findE], ?_⟩
            simp only [remE, if_true]
            exact subH_skip6 (fresh_app_iff.1 nbq).2 (subH_self M2)
      · have c0 : (((4 : Nat) : Int) == 0) = false := rfl
        have c1 : (((4 : Nat) : Int) == 1) = false := rfl
        have c2 : (((4 : Nat) : Int) == 2) = false := rfl
        have c3 : (((4 : Nat) : Int) == 3) = false := rfl
        have c4 : (((4 : Nat) : Int) == 4) = true := rfl
        rw [if_neg (by decide), if_neg (by decide), if_neg (by decide), if_neg (by decide), if_pos rfl] at hgo
        simp only [push_cast, seval, reduceCtorEq, c0, c1, c2, c3, c4, hb5]
        intro bq hbq
        have nbq : fresh bq (N ++ M1) := hbq.2.2.2.2
        try simp only [push_cast, seval, reduceCtorEq, hb5, hbq]
        refine push_hA (P := Tryd.prog) (c := Iv.cells) (x := Iv.mk true [] (.slice none 0 0) []) [_, _] (by_ := 48) (q := 3) (ag := true) ho ⟨(fresh_app_iff.1 nbq).1, (fresh_app_iff.1 q5).1, (fresh_app_iff.1 q4).1, trivial⟩ (by simp only [push_cast, seval, reduceCtorEq]) (by simp only [push_cast, seval, reduceCtorEq]) rfl rfl (by unfold two47; omega) fun v3 N3 ho4 hf4 => ?_
        obtain ⟨Y, hY⟩ : ∃ Y, Y = Iv.mk true [] (.slice none 0 0) [] := ⟨_, rfl⟩
        have hYi : Y.it = .mk true [] [] := by rw [hY]; simp only [Iv.it, Iv.its]
        rw [← hY] at ho4
        obtain ⟨p3, k3, hv3⟩ := ho4.slice
        subst hv3
        rcases ho4 with ⟨r1, -⟩ | ⟨bu, cu, r3, r4, r5, hN3⟩
        · rw [List.length_append] at r1; simp at r1
        obtain ⟨hq3, -⟩ := (show freshN [⟨bu, 0, .vec 29 3 cu, (ks ++ [Y]).flatMap Iv.cells⟩] _ from hN3 ▸ hf4)
        rw [hN3]
        have hbu := hq3
        simp only [push_cast, seval, reduceCtorEq] at hbu
        obtain ⟨u0, w0, u5, u5', u4, u4', uM⟩ := hbu
        have hbu' : ¬ bu = bq ∧ ¬ bq = bu ∧ ¬ bu = b5 ∧ ¬ b5 = bu ∧ ¬ bu = b4 ∧ ¬ b4 = bu := ⟨u0, w0, u5, u5', u4, u4'⟩
        have hl2 : (ks ++ [Y]).length = ks.length + 1 := by simp
        simp only [push_cast, seval, reduceCtorEq, hb5, hbq, hbu', wrap_i64' (show -9223372036854775808 ≤ (i : Int) + 1 ∧ (i : Int) + 1 ≤ 9223372036854775807 by omega)]
        refine ⟨⟨(((i + 1, f'), (ks ++ [Y], .slice p3 (ks ++ [Y]).length k3)), ([⟨bu, 0, .vec 29 3 cu, (ks ++ [Y]).flatMap Iv.cells⟩], M1)), hg1, ⟨uM, trivial⟩, ⟨u5', u5, (fresh_app_iff.1 q5).2⟩, ⟨u4', u4, (fresh_app_iff.1 q4).2⟩⟩, ⟨?_, by dsimp only; omega, by dsimp only; omega, by dsimp only; omega, .inr ⟨bu, cu, r3, r4, r5, rfl⟩, fun z hz => ?_⟩, by dsimp only; omega, rfl, ⟨by dsimp only; rw [hl2], ?_⟩, rfl⟩
        · dsimp only
          rw [List.map_append, List.map_cons, List.map_nil, List.append_assoc, hYi]
          exact hgo
        · rcases List.mem_append.1 hz with hz | hz
          · exact hok z hz
          · rw [List.mem_singleton.1 hz, hY]; exact IvOk.text _ _ _ _
        · refine ⟨by simp [findE], ?_⟩
          simp only [remE, if_true]
          exact subH_skip6 (fresh_app_iff.1 nbq).2 (subH_self M1)
      · have c0 : (((5 : Nat) : Int) == 0) = false := rfl
        have c1 : (((5 : Nat) : Int) == 1) = false := rfl
        have c2 : (((5 : Nat) : Int) == 2) = false := rfl
        have c3 : (((5 : Nat) : Int) == 3) = false := rfl
        have c4 : (((5 : Nat) : Int) == 4) = false := rfl
        rw [if_neg (by decide), if_neg (by decide), if_neg (by decide), if_neg (by decide), if_neg (by decide)] at hgo
        simp only [push_cast, seval, reduceCtorEq, c0, c1, c2, c3, c4]
        refine drawO gO7_ok Tryd.mix [(0, 0), (1, 0), (2, 0), (3, 0), (4, 0), (5, 2), (6, 2), (7, 0), (8, 0), (9, 2), (10, 1), (11, 0), (12, 1)] (by kernel_rfl) ?_
        have b256 : i64B 256 = true := i64B_in (by decide)
        have p256 : posB 256 = true := posB_in (by decide)
        have hz := pickN_lt x2 (show (0 : Int) < 256 by decide)
        obtain ⟨z, hz'⟩ : ∃ z, z = pickN x2 256 := ⟨_, rfl⟩
        unfold byteI at hgo
        rw [← hz'] at hz hgo
        have wz := u8_wrapN z
        obtain ⟨c, hc⟩ : ∃ c, c = UInt8.ofNat z := ⟨_, rfl⟩
        rw [← hc] at wz hgo
        have hbc : bytesOf [.int .u8 (c.toNat : Int)] = some [c] := bytesOf_byteV [c]
        have dog : catB { data := #[100, 111, 103] } (bs [c]) = some (.string (bs [100, 111, 103, c])) := ncatB [100, 111, 103] [c] (by show 3 + 1 ≤ _; omega)
        simp only [push_cast, seval, reduceCtorEq, hb5, b2, b256, p256, ← hz', wz]
        intro bz hbz
        have nbz : fresh bz (N ++ M1) := hbz.2.2.2.2
        simp only [push_cast, seval, reduceCtorEq, hb5, hbz, hbc, bs_mk, dog]
        intro bq hbq
        have nbq : fresh bq (N ++ M1) := hbq.2.2.2.2.2.2
        simp only [push_cast, seval, reduceCtorEq, hb5, hbz, hbq]
        refine push_hA (P := Tryd.prog) (c := Iv.cells) (x := Iv.mk false [100, 111, 103, c] (.slice none 0 0) []) [_, _, _] (by_ := 48) (q := 3) (ag := true) ho ⟨(fresh_app_iff.1 nbq).1, (fresh_app_iff.1 nbz).1, (fresh_app_iff.1 q5).1, (fresh_app_iff.1 q4).1, trivial⟩ (by simp only [push_cast, seval, reduceCtorEq]) (by simp only [push_cast, seval, reduceCtorEq]) rfl rfl (by unfold two47; omega) fun v3 N3 ho4 hf4 => ?_
        obtain ⟨Y, hY⟩ : ∃ Y, Y = Iv.mk false [100, 111, 103, c] (.slice none 0 0) [] := ⟨_, rfl⟩
        have hYi : Y.it = .mk false [100, 111, 103, c] [] := by rw [hY]; simp only [Iv.it, Iv.its]
        rw [← hY] at ho4
        obtain ⟨p3, k3, hv3⟩ := ho4.slice
        subst hv3
        rcases ho4 with ⟨r1, -⟩ | ⟨bu, cu, r3, r4, r5, hN3⟩
        · rw [List.length_append] at r1; simp at r1
        obtain ⟨hq3, -⟩ := (show freshN [⟨bu, 0, .vec 29 3 cu, (ks ++ [Y]).flatMap Iv.cells⟩] _ from hN3 ▸ hf4)
        rw [hN3]
        have hbu := hq3
        simp only [push_cast, seval, reduceCtorEq] at hbu
        obtain ⟨u0, w0, u1, w1, u5, u5', u4, u4', uM⟩ := hbu
        have hbu' : ¬ bu = bq ∧ ¬ bq = bu ∧ ¬ bu = bz ∧ ¬ bz = bu ∧ ¬ bu = b5 ∧ ¬ b5 = bu ∧ ¬ bu = b4 ∧ ¬ b4 = bu := ⟨u0, w0, u1, w1, u5, u5', u4, u4'⟩
        have hl2 : (ks ++ [Y]).length = ks.length + 1 := by simp
        simp only [push_cast, seval, reduceCtorEq, hb5, hbq, hbz, hbu', wrap_i64' (show -9223372036854775808 ≤ (i : Int) + 1 ∧ (i : Int) + 1 ≤ 9223372036854775807 by omega)]
        refine ⟨⟨(((i + 1, f'), (ks ++ [Y], .slice p3 (ks ++ [Y]).length k3)), ([⟨bu, 0, .vec 29 3 cu, (ks ++ [Y]).flatMap Iv.cells⟩], M1)), hg1, ⟨uM, trivial⟩, ⟨u5', u5, (fresh_app_iff.1 q5).2⟩, ⟨u4', u4, (fresh_app_iff.1 q4).2⟩⟩, ⟨?_, by dsimp only; omega, by dsimp only; omega, by dsimp only; omega, .inr ⟨bu, cu, r3, r4, r5, rfl⟩, fun z hz => ?_⟩, by dsimp only; omega, rfl, ⟨by dsimp only; rw [hl2], ?_⟩, rfl⟩
        · dsimp only
          rw [List.map_append, List.map_cons, List.map_nil, List.append_assoc, hYi]
          exact hgo
        · rcases List.mem_append.1 hz with hz | hz
          · exact hok z hz
          · rw [List.mem_singleton.1 hz, hY]; exact IvOk.text _ _ _ _
        · refine ⟨by simp [findE], ?_⟩
          simp only [remE, if_true]
          exact subH_skip6 (fresh_app_iff.1 nbq).2 (subH_skip6 (fresh_app_iff.1 nbz).2 (subH_self M1))
    · have i1 : ¬ (i : Int) < (m : Int) := by omega
      simp only [push_cast, seval, reduceCtorEq, i1, hb5]
      have hRk : R = ks.map Iv.it := by
        rw [← hgo, List.drop_of_length_le (by omega)]
        have : goB (rawSub d) f [] = [] := by cases f <;> rfl
        rw [this, List.append_nil]
      refine done6 [_, _] hg1 ho.wr.1 ho.wr.2 (ItemQ.rd d raw) ⟨.mk true [] (.slice pk ks.length ck) ks, rfl, ?_, .mk _ (ho.liR rfl rfl M1) (by show ks.length ≤ _; omega) fun y hy => (hok y hy).ext (Ext.front hg1.marks ho.wr.2 hNM)⟩
      rw [hQ, hRk]; simp only [Iv.it]; rw [Iv.its_map]
theorem item6_ok (d : Nat) : d ≤ 10 → ∀ (raw : List (Int × Int)) (v : Value) (M : Hp), LiR prI 2 M raw v → CapOk v → (∀ x ∈ raw, i64In x.1 ∧ i64In x.2) → raw.length ≤ 9223372036854775807 → CallsR Tryd.prog 10 [v, .int .i64 (d : Int)] M (ItemQ d raw) := by
  induction d with
  | zero => exact fun hd raw v M h1 h2 h3 h4 => item6_step 0 hd (fun d' h => by omega) raw v M h1 h2 h3 h4
  | succ d ih =>
    intro hd raw v M h1 h2 h3 h4
    refine item6_step (d + 1) hd (fun d' h => ?_) raw v M h1 h2 h3 h4
    have e : d' = d := by omega
    subst e
    exact ih (by omega)
end Go.Proofs.YtolmipnaheifcaaDoor
set_option linter.unusedSimpArgs false
set_option linter.unusedVariables false
namespace Go.Proofs.YtolmipnaheifcaaDoor
open Go Go.Ev Go.Proofs Go.ChangeShapes Go.WideShapes Go.ChangeAt Go.RowKit
set_option maxRecDepth 100000
set_option maxHeartbeats 4000000
structure RawOk6 (H : Hp) (raw : List (Int × Int)) (v : Value) : Prop where
  li : LiR prI 2 H raw v
  cap : CapOk v
  in_ : ∀ x ∈ raw, i64In x.1 ∧ i64In x.2
  len : raw.length ≤ 9223372036854775807
theorem raw6_of {H : Type} {enc : TypeId × Value → H} {W : World} {r : Reach} {b0 base : Nat} {spare : Nat → Bool} {held : Bool} {v : Value} {dd : DataW H} {ps : List MemPlace} (hval : Value.okWide Tryd.prog W r b0 22 v)
    (h : DataW.Trod enc Tryd.prog W base spare held 22 v dd ps) : ∃ raw, RawOk6 (roW W) raw v := by
  obtain ⟨p, len, cap, f, rfl, hl, hm, hf, hc⟩ := slice_of_trod kids (d := 8) (t := 22) (e := 54) (ks := [.int .i64, .int .i64]) (by kernel_rfl) (by show _ < _; decide +kernel) (by kernel_rfl) (by decide +kernel) hval h
  obtain ⟨g, hg⟩ := Deep.choose_lt (α := Int × Int) (n := len) (p := fun i x => f i = [.int .i64 x.1, .int .i64 x.2] ∧ i64In x.1 ∧ i64In x.2) fun i hi => by
    have h2 := hf i hi
    generalize f i = cs at h2 ⊢
    cases h2 with
    | cons a1 h3 =>
      cases h3 with
      | cons a2 h4 =>
        cases h4
        obtain ⟨x, rfl, wx⟩ := a1
        obtain ⟨y, rfl, wy⟩ := a2
        exact ⟨(x, y), rfl, i64_wf wx, i64_wf wy⟩
  refine ⟨(List.range len).map g, ⟨⟨p, cap, by simp, ?_⟩, ⟨p, len, cap, rfl, hl⟩, fun x hx => ?_, ?_⟩⟩
  · rcases hc with rfl | ⟨b, o, rfl, hc⟩
    · exact .inl rfl
    · refine .inr ⟨b, o, rfl, ?_⟩
      rw [show Tryd.prog.cellsOf 54 = 2 by decide +kernel] at hc
      simp only [List.length_map, List.length_range]
      rw [hc, List.flatMap_map, List.flatMap_def, List.flatMap_def]
      congr 2
      exact List.map_congr_left fun i hi => (hg i (List.mem_range.1 hi)).1
  · obtain ⟨i, hi, rfl⟩ := List.mem_map.1 hx
    exact (hg i (List.mem_range.1 hi)).2
  · have : maxLen = 9223372036854775807 := by decide
    simp only [List.length_map, List.length_range]
    omega
end Go.Proofs.YtolmipnaheifcaaDoor
set_option linter.unusedSimpArgs false
set_option linter.unusedVariables false
namespace Go.Ev
mutual
def smI : It → Bool
  | .mk _ b ks => decide (b.length ≤ 70) && smIs ks
def smIs : List It → Bool
  | [] => true
  | k :: r => smI k && smIs r
end
mutual
theorem okD_mono : ∀ (x : It) (d e : Nat), d ≤ e → okD x d = true → okD x e = true
  | .mk l b ks, d, e, h, ho => by
    cases d with
    | zero => rw [okD] at ho; cases ho
    | succ d =>
      obtain ⟨e', rfl⟩ : ∃ e', e = e' + 1 := ⟨e - 1, by omega⟩
      rw [okD, Bool.and_eq_true] at ho ⊢
      exact ⟨ho.1, okDs_mono ks d e' (by omega) ho.2⟩
theorem okDs_mono : ∀ (ks : List It) (d e : Nat), d ≤ e → okDs ks d = true → okDs ks e = true
  | [], d, e, h, _ => by rw [okDs]
  | k :: r, d, e, h, ho => by
    rw [okDs, Bool.and_eq_true] at ho ⊢
    exact ⟨okD_mono k d e h ho.1, okDs_mono r d e h ho.2⟩
end
theorem headL_le9 (k : Nat) {n : Nat} (h : n < 18446744073709551616) : (headL k n).length ≤ 9 := by
  rw [headL_len]
  split
  · omega
  · have := lenL_len h; omega
theorem textL_le {b : List UInt8} (h : b.length ≤ 70) : (textL b).length ≤ 79 := by
  by_cases h1 : b.length = 1 ∧ (b.headD 0).toNat < 128
  · obtain ⟨c, rfl⟩ := List.length_eq_one_iff.1 h1.1
    rw [textL_one (show c.toNat < 128 from h1.2)]; exact Nat.le_trans (Nat.le_refl 1) (by decide)
  · rw [textL_as h1, List.length_append]
    have := headL_le9 128 (n := b.length) (by omega)
    omega
mutual
theorem encL_sm : ∀ (x : It), smI x = true → cntI x ≤ 1000000000 → (encL x).length ≤ 80 * cntI x
  | .mk l b ks, h, hc => by
    rw [smI, Bool.and_eq_true, decide_eq_true_eq] at h
    rw [cntI] at hc ⊢
    cases l with
    | true =>
      have := encLs_sm ks h.2 (by omega)
      rw [encL, List.length_append]
      have := headL_le9 192 (n := (encLs ks).length) (by omega)
      omega
    | false =>
      rw [encL]
      have := textL_le h.1
      omega
theorem encLs_sm : ∀ (ks : List It), smIs ks = true → cntIs ks ≤ 1000000000 → (encLs ks).length ≤ 80 * cntIs ks
  | [], _, _ => by rw [encLs]; exact Nat.zero_le _
  | k :: r, h, hc => by
    rw [smIs, Bool.and_eq_true] at h
    rw [cntIs] at hc ⊢
    rw [encLs, List.length_append]
    have := encL_sm k h.1 (by omega)
    have := encLs_sm r h.2 (by omega)
    omega
end
theorem pow2_mono {a b : Nat} (h : a ≤ b) : 2 ^ a ≤ 2 ^ b := Nat.pow_le_pow_right (by decide) h
def GoodR (d n : Nat) (ks : List It) : Prop := okDs ks d = true ∧ cntIs ks + 1 ≤ 2 ^ n ∧ smIs ks = true
theorem GoodR.leaf {d n : Nat} {ks : List It} (l : Bool) (b : List UInt8) (hl : l = false ∨ b = []) (hb : b.length ≤ 70) (h : GoodR (d + 1) n ks) : GoodR (d + 1) (n + 1) (.mk l b [] :: ks) := by
  obtain ⟨h1, h2, h3⟩ := h
  have hp : 0 < 2 ^ n := Nat.two_pow_pos n
  refine ⟨?_, ?_, ?_⟩
  · rw [okDs, h1, okD, okDs, Bool.and_true, Bool.and_true]
    rcases hl with rfl | rfl <;> simp
  · rw [cntIs, cntI, cntIs, Nat.pow_succ]; omega
  · rw [smIs, h3, smI, smIs, decide_eq_true hb]; rfl
theorem goB_good {d : Nat} {sub : List (Int × Int) → Option It} (hs : ∀ r y, sub r = some y → okD y (d + 1) = true ∧ cntI y ≤ 2 ^ r.length ∧ smI y = true) : ∀ (f : Nat) (r : List (Int × Int)), GoodR (d + 1) r.length (goB sub f r)
  | 0, r => ⟨by rw [goB, okDs], by rw [goB, cntIs]; exact Nat.two_pow_pos _, by rw [goB, smIs]⟩
  | f + 1, [] => ⟨by rw [goB, okDs], by rw [goB, cntIs]; exact Nat.two_pow_pos _, by rw [goB, smIs]⟩
  | f + 1, x :: r => by
    have ih := goB_good hs f r
    have hnum := numL_len (W.ofInt x.2)
    have h70 := pickN_lt x.2 (show (0 : Int) < 70 by decide)
    rw [goB, List.length_cons]
    split
    · exact ih.leaf false _ (.inl rfl) (by omega)
    split
    · exact ih.leaf false _ (.inl rfl) (by rw [List.length_replicate]; omega)
    split
    · exact ih.leaf false _ (.inl rfl) (by show 1 ≤ 70; decide)
    split
    · split
      · rename_i y hy
        obtain ⟨y1, y2, y3⟩ := hs r y hy
        obtain ⟨k1, k2, k3⟩ := goB_good hs f (r.drop (pickN x.2 4))
        have hl : (r.drop (pickN x.2 4)).length ≤ r.length := by rw [List.length_drop]; omega
        have := pow2_mono hl
        refine ⟨by rw [okDs, y1, k1]; rfl, by rw [cntIs, Nat.pow_succ]; omega, by rw [smIs, y3, k3]; rfl⟩
      · obtain ⟨k1, k2, k3⟩ := ih
        have := pow2_mono (Nat.le_succ r.length)
        exact ⟨k1, by omega, k3⟩
    split
    · exact ih.leaf true _ (.inr rfl) (Nat.zero_le _)
    · exact ih.leaf false _ (.inl rfl) (by show 4 ≤ 70; decide)
theorem itemB_good : ∀ (d : Nat) (raw : List (Int × Int)), okD (itemB d raw) (d + 2) = true ∧ cntI (itemB d raw) ≤ 2 ^ raw.length ∧ cntI (itemB d raw) ≤ 512 ∧ smI (itemB d raw) = true
  | d, raw => by
    have hs : ∀ r y, rawSub d r = some y → okD y (d + 1) = true ∧ cntI y ≤ 2 ^ r.length ∧ smI y = true := by
      intro r y hy
      cases d with
      | zero => cases hy
      | succ d =>
        replace hy : some (itemB d r) = some y := hy
        injection hy with hy
        subst hy
        obtain ⟨h1, h2, -, h4⟩ := itemB_good d r
        exact ⟨h1, h2, h4⟩
    obtain ⟨g1, g2, g3⟩ := goB_good hs 9 (raw.take 9)
    have hl : (raw.take 9).length ≤ raw.length := by rw [List.length_take]; omega
    have hl9 : (raw.take 9).length ≤ 9 := by rw [List.length_take]; omega
    have p1 := pow2_mono hl
    have p2 := pow2_mono hl9
    rw [itemB_eq]
    refine ⟨?_, ?_, ?_, ?_⟩
    · rw [okD, g1]; rfl
    · rw [cntI]; omega
    · rw [cntI]; omega
    · rw [smI, g3]; rfl
theorem rightI_of {x : It} {d : Nat} (hd : d ≤ 16) (h1 : okD x d = true) (h2 : cntI x ≤ 5000) : rightI x = true := by
  rw [rightI_eq, okD_mono x d 16 hd h1, decide_eq_true h2]; rfl
theorem itemB_right {d : Nat} (hd : d ≤ 10) (raw : List (Int × Int)) : rightI (itemB d raw) = true := by
  obtain ⟨h1, -, h3, -⟩ := itemB_good d raw
  exact rightI_of (d := d + 2) (by omega) h1 (by omega)
theorem itemB_len (d : Nat) (raw : List (Int × Int)) : (encL (itemB d raw)).length ≤ 40960 := by
  obtain ⟨-, -, h3, h4⟩ := itemB_good d raw
  have := encL_sm _ h4 (by omega)
  omega
theorem encD_ok {x : It} (hr : rightI x = true) (hl : (encL x).length ≤ 1048576) : encD x = (encL x, 0) := by
  unfold encD
  rw [if_pos hr, if_pos hl]
theorem pair_right {a b : It} {d : Nat} (hd : d ≤ 15) (ha : okD a d = true) (hb : okD b d = true) (ca : cntI a ≤ 600) (cb : cntI b ≤ 600) : rightI (.mk true [] [a, b]) = true := by
  refine rightI_of (d := d + 1) (by omega) ?_ (by rw [cntI, cntIs, cntIs, cntIs]; omega)
  rw [okD, okDs, okDs, okDs, ha, hb]; rfl
theorem pair_enc (a b : It) : encL (.mk true [] [a, b]) = headL 192 ((encL a).length + (encL b).length) ++ (encL a ++ encL b) := by
  rw [encL, encLs, encLs, encLs, List.append_nil, List.length_append]
end Go.Ev
set_option linter.unusedSimpArgs false
set_option linter.unusedVariables false
namespace Go.Ev
theorem numN_snoc (l : List UInt8) (c : UInt8) : numN (l ++ [c]) = 256 * numN l + c.toNat := by
  unfold numN
  rw [List.reverse_append]
  show beN (c :: l.reverse) = _
  rw [beN]; omega
theorem numN_take (l : List UInt8) {i : Nat} (h : i < l.length) : numN (l.take (i + 1)) = 256 * numN (l.take i) + (l.getD i 0).toNat := by
  rw [List.take_add_one, List.getElem?_eq_getElem h]
  show numN (l.take i ++ [l[i]]) = _
  rw [numN_snoc, getD_lt h]
theorem numN_take_le (l : List UInt8) (i : Nat) : numN (l.take i) ≤ numN l := by
  induction l generalizing i with
  | nil => rw [List.take_nil]; exact Nat.le_refl _
  | cons c r ih =>
    cases i with
    | zero => rw [List.take_zero]; exact Nat.zero_le _
    | succ i =>
      rw [List.take_succ_cons, numN_cons, numN_cons]
      have h1 := ih i
      have h2 : 256 ^ (r.take i).length ≤ 256 ^ r.length := Nat.pow_le_pow_right (by decide) (by rw [List.length_take]; omega)
      have := Nat.mul_le_mul_right c.toNat h2
      omega
end Go.Ev
namespace Go.Proofs.YtolmipnaheifcaaDoor
open Go Go.Ev Go.Proofs
set_option maxRecDepth 100000
set_option maxHeartbeats 4000000
theorem rlpParts_ok {M : Hp} {raw raw2 : List (Int × Int)} {v v2 : Value} (hk : ErrR M) (hm : marksOf M = []) (hv : LiR prI 2 M raw v) (hcap : CapOk v) (hin : ∀ x ∈ raw, i64In x.1 ∧ i64In x.2) (hlen : raw.length ≤ 9223372036854775807)
    (hv2 : LiR prI 2 M raw2 v2) (hcap2 : CapOk v2) (hin2 : ∀ x ∈ raw2, i64In x.1 ∧ i64In x.2) (hlen2 : raw2.length ≤ 9223372036854775807) :
    CallsV Tryd.prog 5 [v, v2] M (Ret0 (.bool true)) := by
  obtain ⟨E, hE⟩ : ∃ E, E = encL (itemB 3 raw) := ⟨_, rfl⟩
  obtain ⟨F, hF⟩ : ∃ F, F = encL (itemB 2 raw2) := ⟨_, rfl⟩
  have hEl : E.length ≤ 40960 := by rw [hE]; exact itemB_len 3 raw
  have hFl : F.length ≤ 40960 := by rw [hF]; exact itemB_len 2 raw2
  have hE0 : 0 < E.length := by rw [hE]; exact encL_pos _
  have enc1 : encD (itemB 3 raw) = (E, 0) := by rw [encD_ok (itemB_right (by decide) raw) (by rw [← hE]; omega), hE]
  have enc2 : encD (itemB 2 raw2) = (F, 0) := by rw [encD_ok (itemB_right (by decide) raw2) (by rw [← hF]; omega), hF]
  obtain ⟨n, hn⟩ : ∃ n, n = E.length + F.length := ⟨_, rfl⟩
  obtain ⟨D, hD⟩ : ∃ D, D = headL 192 n := ⟨_, rfl⟩
  have hDl : D.length ≤ 9 := by rw [hD]; exact headL_le9 192 (by omega)
  have hD0 : 0 < D.length := by rw [hD]; exact headL_pos _ _
  have encU : encL (.mk true [] [itemB 3 raw, itemB 2 raw2]) = D ++ (E ++ F) := by rw [pair_enc, ← hE, ← hF, ← hn, ← hD]
  obtain ⟨U, hU⟩ : ∃ U, U = D ++ (E ++ F) := ⟨_, rfl⟩
  have hUl : U.length = D.length + n := by rw [hU, List.length_append, List.length_append, hn]
  have enc3 : encD (.mk true [] [itemB 3 raw, itemB 2 raw2]) = (U, 0) := by
    obtain ⟨a1, -, a3, -⟩ := itemB_good 3 raw
    obtain ⟨b1, -, b3, -⟩ := itemB_good 2 raw2
    rw [encD_ok (pair_right (d := 5) (by decide) a1 (okD_mono _ 4 5 (by decide) b1) (by omega) (by omega)) (by rw [encU, ← hU]; omega), encU, ← hU]
  refine callsO gO7_ok Tryd.mix Tryd.pl5 Tryd.func5 rfl Tryd.ntmps5 Tryd.results5 rfl (by first | rfl | assumption) (Nat.le_of_ble_eq_true rfl) (by kernel_rfl) ?_
  simp only [push_cast, seval, reduceCtorEq]
  refine useP [] (M := M) (awk06_P hk) trivial ?_
  simp only [push_cast, seval, reduceCtorEq]
  refine useL [] (item6_ok 3 (by decide) raw v M hv hcap hin hlen) (ItemQ.rd 3 raw) hm trivial fun w M1 hg1 _ hq1 => ?_
  obtain ⟨y, rfl, hy1, hy2⟩ := hq1
  have hm1 := hg1.marks
  obtain ⟨yl, yb, yp, yn, yc, hyv⟩ := hy2.opn
  simp only [push_cast, seval, reduceCtorEq, hyv]
  intro b6 hb6
  refine useL [_] (item6_ok 2 (by decide) raw2 v2 M1 (hv2.ext hg1.ext) hcap2 hin2 hlen2) (ItemQ.rd 2 raw2) hm1 ⟨hb6, trivial⟩ fun w M2 hg2 hL2 hq2 => ?_
  obtain ⟨z, rfl, hz1, hz2⟩ := hq2
  have hm2 := hg2.marks
  have hy3 := hy2.ext hg2.ext
  obtain ⟨zl, zb, zp, zn, zc, hzv⟩ := hz2.opn
  have f6 : fresh b6 M2 := hL2.1
  simp only [push_cast, seval, reduceCtorEq, hzv]
  intro b7 hb7
  simp only [push_cast, seval, reduceCtorEq, hb7]
  have f7 : fresh b7 M2 := hb7.2.2
  refine useP [_, _] (M := M2) (v := .tuple #[.string (bs E), .int .i64 0]) (fun M0 hr he => by have := renc_R hy3 (by rw [hy1, ← hE]; omega) M0 hr he; rw [hyv, hy1, enc1] at this; exact this) ⟨f7, f6, trivial⟩ ?_
  simp only [push_cast, seval, reduceCtorEq, hb7]
  refine useP [_, _] (M := M2) (v := .tuple #[.string (bs F), .int .i64 0]) (fun M0 hr he => by have := renc_R hz2 (by rw [hz1, ← hF]; omega) M0 hr he; rw [hzv, hz1, enc2] at this; exact this) ⟨f7, f6, trivial⟩ ?_
  simp only [push_cast, seval, reduceCtorEq, hb7]
  intro b hb
  try simp only [push_cast, seval, reduceCtorEq, hb7, hb]
  obtain ⟨X, hX⟩ : ∃ X, X = Iv.mk true [] (.slice (some ⟨b, 0, none⟩) 2 2) [y, z] := ⟨_, rfl⟩
  have hXv : Value.agg #[.bool true, .string (bs []), .slice (some ⟨b, 0, none⟩) 2 2] = X.v := by rw [hX]; rfl
  have hXi : X.it = .mk true [] [itemB 3 raw, itemB 2 raw2] := by rw [hX]; simp only [Iv.it, Iv.its, hy1, hz1]
  obtain ⟨c1, c2, c3, hyc⟩ : ∃ c1 c2 c3, y.cells = [c1, c2, c3] := ⟨_, _, _, rfl⟩
  have yc1 : y.cells = [.bool yl, .string yb, .slice yp yn yc] := by
    have h : Value.agg y.cells.toArray = .agg #[.bool yl, .string yb, .slice yp yn yc] := hyv
    injection h with h
    exact congrArg Array.toList h
  have zc1 : z.cells = [.bool zl, .string zb, .slice zp zn zc] := by
    have h : Value.agg z.cells.toArray = .agg #[.bool zl, .string zb, .slice zp zn zc] := hzv
    injection h with h
    exact congrArg Array.toList h
  obtain ⟨M3, hM3⟩ : ∃ M3 : Hp, M3 = ⟨b, 0, .vec 29 3 2, [.bool yl, .string yb, .slice yp yn yc, .bool zl, .string zb, .slice zp zn zc]⟩ :: ⟨b7, 0, .cel 29, [.bool zl, .string zb, .slice zp zn zc]⟩ :: ⟨b6, 0, .cel 29, [.bool yl, .string yb, .slice yp yn yc]⟩ :: M2 := ⟨_, rfl⟩
  have hx23 : Ext M2 M3 := by
    rw [hM3]
    have x1 : Ext M2 (⟨b6, 0, .cel 29, [.bool yl, .string yb, .slice yp yn yc]⟩ :: M2) := Ext.cons hm2 rfl f6
    have x2 := Ext.cons (e := ⟨b7, 0, .cel 29, [.bool zl, .string zb, .slice zp zn zc]⟩) x1.marks rfl hb7
    have x3 := Ext.cons (e := ⟨b, 0, .vec 29 3 2, [.bool yl, .string yb, .slice yp yn yc, .bool zl, .string zb, .slice zp zn zc]⟩) x2.marks rfl hb
    exact (x1.trans x2).trans x3
  have hX3 : IvOk M3 X := by
    rw [hX]
    refine .mk _ ⟨_, 2, rfl, .inr ⟨b, 0, rfl, ?_⟩⟩ (show 2 ≤ 1099511627776 by decide) fun k hk => ?_
    · show cellsAt M3 b 0 6 = some ([y, z].flatMap Iv.cells)
      rw [List.flatMap_cons, List.flatMap_cons, List.flatMap_nil, yc1, zc1, hM3]
      unfold cellsAt
      simp only [findE, if_true]
      rfl
    · replace hk : k ∈ [y, z] := hk
      rcases List.mem_cons.1 hk with rfl | hk
      · exact hy3.ext hx23
      · rw [List.mem_singleton.1 hk]; exact hz2.ext hx23
  rw [← hM3, hXv]
  refine useP [] (M := M3) (v := .tuple #[.string (bs U), .int .i64 0]) (fun M0 hr he => by have := renc_R hX3 (by rw [hXi, encU, ← hU]; omega) M0 hr he; rw [hXi, enc3] at this; exact this) trivial ?_
  have ul : ¬ (U.length : Int) < (n : Int) + 1 := by omega
  have wn : IntKind.i64.wrap ((E.length : Int) + (F.length : Int)) = (n : Int) := by rw [show (E.length : Int) + (F.length : Int) = (n : Int) by omega]; exact IntWalk.i64_in _ (by omega)
  have wU : IntKind.i64.wrap ((U.length : Int) - (n : Int)) = (D.length : Int) := by rw [show (U.length : Int) - (n : Int) = (D.length : Int) by omega]; exact IntWalk.i64_in _ (by omega)
  have d1 : D.length ≤ U.length := by omega
  have d1' : (D.length : Int) ≤ (U.length : Int) := by omega
  have tk : List.take D.length U = D := by rw [hU, List.take_append_of_le_length (Nat.le_refl _), List.take_length]
  have EFl : (E ++ F).length = E.length + F.length := List.length_append
  have dr : List.take (U.length - D.length) (List.drop D.length U) = E ++ F := by
    rw [hU, List.drop_append_of_le_length (Nat.le_refl _), List.drop_length, List.nil_append, List.take_of_length_le (by rw [← hU]; omega)]
  have cat : catB (bs E) (bs F) = some (.string (bs (E ++ F))) := ncatB E F (by omega)
  have D0 : (bs D).data[0]? = some (D.getD 0 0) := nb_at hD0
  have dl0 : (0 : Int) < (D.length : Int) := by omega
  by_cases hn55 : n ≤ 55
  · have c1 : (n : Int) ≤ 55 := by omega
    have hD1 : D = [UInt8.ofNat (192 + n)] := by rw [hD, headL_le hn55]
    have hDl1 : D.length = 1 := by rw [hD1]; rfl
    have e1 : ((D.length : Int) == 1) = true := by rw [hDl1]; rfl
    have e2 : (((D.getD 0 0).toNat : Int) == 192 + (n : Int)) = true := by
      rw [show D.getD 0 0 = UInt8.ofNat (192 + n) by rw [hD1]; rfl, u8_to (by omega), beq_iff_eq]; omega
    have w8 : IntKind.i64.wrap ((D.getD 0 0).toNat : Int) = ((D.getD 0 0).toNat : Int) := IntWalk.i64_in _ (by have := (D.getD 0 0).toNat_lt; omega)
    simp only [push_cast, seval, reduceCtorEq, wn, wrap_i64' (show -9223372036854775808 ≤ (n : Int) + 1 ∧ (n : Int) + 1 ≤ 9223372036854775807 by omega), ul, wU, d1, d1', tk, dr, cat, c1, e1, dl0, hD0, D0, w8, wrap_i64' (show -9223372036854775808 ≤ 192 + (n : Int) ∧ 192 + (n : Int) ≤ 9223372036854775807 by omega), e2]
  · have c1 : ¬ (n : Int) ≤ 55 := by omega
    have hD1 : D = UInt8.ofNat (192 + 55 + (lenL n).length) :: lenL n := by rw [hD, headL_gt hn55]
    have hL8 := lenL_len (n := n) (by omega)
    have hLn := lenL_num (n := n) (by omega)
    have hLh := lenL_head n
    have hLne := lenL_ne (n := n) (by omega) (by omega)
    obtain ⟨L, hL⟩ : ∃ L, L = lenL n := ⟨_, rfl⟩
    rw [← hL] at hD1 hL8 hLn hLh hLne
    have hDL : D.length = L.length + 1 := by rw [hD1]; rfl
    have hL0 : 0 < L.length := List.length_pos_iff.2 hLne
    simp only [push_cast, seval, reduceCtorEq, wn, wrap_i64' (show -9223372036854775808 ≤ (n : Int) + 1 ∧ (n : Int) + 1 ≤ 9223372036854775807 by omega), ul, wU, d1, d1', tk, dr, cat, c1]
    have Dat : ∀ i, D.getD (i + 1) 0 = L.getD i 0 := fun i => by rw [hD1]; rfl
    refine loopO gO7_ok (pl := Tryd.pl5) Tryd.mix (X := Nat)
      (fun i => ([(5, .bool true), (14, .int .i64 (n : Int)), (15, .string (bs D)), (16, .int .i64 (numN (L.take i) : Nat)), (17, .int .i64 ((i + 1 : Nat) : Int))], []))
      (fun i => i ≤ L.length) (fun i => L.length - i) 0 (Nat.zero_le _) ?_ (by kernel_rfl) ?_
    · simp only [push_cast, seval, reduceCtorEq, List.take_zero, show numN [] = 0 from rfl]
      exact hx23.marks.symm
    · intro i hi
      dsimp only at hi ⊢
      have hle := numN_take_le L i
      obtain ⟨k, hk'⟩ : ∃ k, k = numN (L.take i) := ⟨_, rfl⟩
      rw [← hk'] at hle ⊢
      rcases Nat.lt_or_ge i L.length with hlt | hge
      · have i1 : ((i + 1 : Nat) : Int) < (D.length : Int) := by omega
        have i2 : i + 1 < D.length := by omega
        have Di : (bs D).data[i + 1]? = some (L.getD i 0) := by rw [nb_at i2, Dat]
        have hst := numN_take L hlt
        have hle2 := numN_take_le L (i + 1)
        rw [← hk'] at hst
        obtain ⟨c, hc⟩ : ∃ c, c = L.getD i 0 := ⟨_, rfl⟩
        rw [← hc] at Di hst
        have w1 : IntKind.i64.wrap (256 * (k : Int)) = 256 * (k : Int) := IntWalk.i64_in _ (by omega)
        have w2 : IntKind.i64.wrap (c.toNat : Int) = (c.toNat : Int) := IntWalk.i64_in _ (by have := c.toNat_lt; omega)
        have w3 : IntKind.i64.wrap (256 * (k : Int) + (c.toNat : Int)) = ((numN (L.take (i + 1)) : Nat) : Int) := by rw [hst, show (256 * (k : Int) + (c.toNat : Int)) = ((256 * k + c.toNat : Nat) : Int) by omega]; exact IntWalk.i64_in _ (by omega)
        have i1' : (i : Int) + 1 < (D.length : Int) := by omega
        have i3 : ((i : Int) + 1).toNat = i + 1 := by omega
        have i4 : (0 : Int) ≤ (i : Int) + 1 := by omega
        simp only [push_cast, seval, reduceCtorEq, i1', i2, i3, i4, Di, w1, w2, w3, wrap_i64' (show -9223372036854775808 ≤ (i : Int) + 1 + 1 ∧ (i : Int) + 1 + 1 ≤ 9223372036854775807 by omega)]
        exact ⟨i + 1, hlt, by omega, rfl, rfl⟩
      · obtain rfl : i = L.length := by omega
        have i1' : ¬ (L.length : Int) + 1 < (D.length : Int) := by omega
        rw [List.take_length, hLn] at hk'
        subst hk'
        have w8 : IntKind.i64.wrap ((D.getD 0 0).toNat : Int) = ((D.getD 0 0).toNat : Int) := IntWalk.i64_in _ (by have := (D.getD 0 0).toNat_lt; omega)
        have e2 : (((D.getD 0 0).toNat : Int) == 247 + (D.length : Int) - 1) = true := by
          rw [show D.getD 0 0 = UInt8.ofNat (192 + 55 + L.length) by rw [hD1]; rfl, u8_to (by omega), beq_iff_eq]; omega
        have D1 : (bs D).data[1]? = some (L.getD 0 0) := by rw [nb_at (by omega)]; exact congrArg some (Dat 0)
        have l1 : 1 < D.length := by omega
        have l1' : (1 : Int) < (D.length : Int) := by omega
        have e3 : (((L.getD 0 0).toNat : Int) != 0) = true := by
          rw [bne_iff_ne]
          intro h
          refine hLh ?_
          have h2 : L.getD 0 0 = 0 := UInt8.toNat_inj.1 (show (L.getD 0 0).toNat = 0 by omega)
          cases hL' : L with
          | nil => exact absurd hL' hLne
          | cons y r => rw [hL'] at h2; exact h2
        simp only [push_cast, seval, reduceCtorEq, i1', hD0, dl0, D0, D1, l1, l1', w8, e2, e3, wrap_i64' (show -9223372036854775808 ≤ 247 + (D.length : Int) ∧ 247 + (D.length : Int) ≤ 9223372036854775807 by omega), wrap_i64' (show -9223372036854775808 ≤ 247 + (D.length : Int) - 1 ∧ 247 + (D.length : Int) - 1 ≤ 9223372036854775807 by omega)]
end Go.Proofs.YtolmipnaheifcaaDoor
