/- Texts of this claim, merged by program: Bp. -/
import Derived.Test.YtincedmdkdjakaaGreatZfAq
set_option linter.unusedSimpArgs false
set_option linter.unusedVariables false
namespace Go.Ev
theorem OutC.sl {α : Type} {c : α → List Value} {e s : Nat} {l : List α} {v : Value} {N : Hp} (h : OutC e s (l.flatMap c) l.length v N) : ∃ p k, v = .slice p l.length k := h.slice
noncomputable def isUp (ks : List Ky) (i k : Nat) : Bool := ((ks.take k).drop (i + 1)).all fun x => !decide (some x = ks[i]?)
theorem isUp_0 (ks : List Ky) (i : Nat) : isUp ks i (i + 1) = true := by
  unfold isUp
  rw [List.drop_of_length_le (by rw [List.length_take]; omega)]; rfl
theorem isUp_n (ks : List Ky) (i : Nat) : isUp ks i ks.length = isLast ks i := by
  unfold isUp isLast
  rw [List.take_length]
theorem isUp_s {ks : List Ky} {i k : Nat} {x y : Ky} (hi : i < k) (hx : ks[k]? = some x) (hy : ks[i]? = some y) : isUp ks i (k + 1) = (isUp ks i k && !decide (x = y)) := by
  unfold isUp
  have hk : k < ks.length := (List.getElem?_eq_some_iff.1 hx).1
  rw [List.take_add_one, hx, List.drop_append, List.all_append, List.length_take, Nat.min_eq_left (by omega), show i + 1 - k = 0 by omega, List.drop_zero, hy]
  simp
noncomputable def lastV (ks : List Ky) (n : Nat) : List Int := (lastI ks n).map fun i : Nat => (i : Int)
theorem lastV_t {ks : List Ky} {n : Nat} (h : isLast ks n = true) : lastV ks (n + 1) = lastV ks n ++ [(n : Int)] := by
  unfold lastV
  rw [lastI_succ, if_pos h, List.map_append]; rfl
theorem lastV_f {ks : List Ky} {n : Nat} (h : isLast ks n = false) : lastV ks (n + 1) = lastV ks n := by
  unfold lastV
  rw [lastI_succ, if_neg (by rw [h]; decide)]
theorem OutG.capL {e s n : Nat} {cs : List Value} {p : Option Addr} {c : Nat} {N : Hp} (h : OutG e s cs n (.slice p n c) N) : n ≤ c ∧ (p = none ∨ ∃ b, p = some ⟨b, 0, none⟩) := by
  rcases h with ⟨rfl, _, hv, _⟩ | ⟨b, c', hv, h1, _, _⟩
  · cases hv; exact ⟨Nat.le_refl _, .inl rfl⟩
  · cases hv; exact ⟨h1, .inr ⟨b, rfl⟩⟩
theorem slAddrL0 {p : Option Addr} {c s : Nat} (h : p = none ∨ ∃ b, p = some ⟨b, 0, none⟩) : slAddr p c 0 s = p := by
  unfold slAddr
  rcases h with rfl | ⟨b, rfl⟩
  · split <;> rfl
  · split
    · rfl
    · simp
theorem LiR.dropL {α : Type} {c : α → List Value} {s : Nat} {H : Hp} {l : List α} {p : Option Addr} {n k : Nat} (hs : ∀ x, (c x).length = s) (h : LiR c s H l (.slice p n k)) (hnk : n ≤ k) (hp : p = none ∨ ∃ b, p = some ⟨b, 0, none⟩) {m : Nat} (hm : m ≤ l.length) : LiR c s H (l.drop m) (.slice (slAddr p k m s) (n - m) (k - m)) := by
  obtain ⟨p', k', hv, h1⟩ := h
  cases hv
  refine ⟨_, k - m, by rw [List.length_drop], ?_⟩
  by_cases hml : m = l.length
  · exact .inl (by rw [hml, List.drop_length])
  have hmk : ¬ k = m := by omega
  rcases h1 with h1 | ⟨b, o, rfl, h1⟩
  · subst h1; exact absurd (Nat.le_zero.1 hm) hml
  obtain rfl : o = 0 := by
    rcases hp with hp | ⟨b', hp⟩
    · cases hp
    · cases hp; rfl
  refine .inr ⟨b, 0 + m * s, by unfold slAddr; rw [if_neg hmk], ?_⟩
  have hdr : (l.drop m).flatMap c = (l.flatMap c).drop (m * s) := by
    have h0 : l.flatMap c = (l.take m).flatMap c ++ (l.drop m).flatMap c := by rw [← List.flatMap_append, List.take_append_drop]
    have h2 : ((l.take m).flatMap c).length = m * s := by rw [flatMap_len hs, List.length_take, Nat.min_eq_left hm]
    rw [h0, List.drop_append_of_le_length (Nat.le_of_eq h2.symm), List.drop_of_length_le (Nat.le_of_eq h2)]; rfl
  have hle : m * s + (l.length - m) * s = l.length * s := by rw [← Nat.add_mul]; congr 1; omega
  rw [hdr, List.length_drop]
  unfold cellsAt at h1 ⊢
  cases he : findE H b with
  | none => rw [he] at h1; cases h1
  | some e =>
    rw [he] at h1
    dsimp only at h1 ⊢
    by_cases ho : e.off ≤ 0
    · rw [if_pos ho] at h1
      rw [if_pos (by omega)]
      unfold subL at h1 ⊢
      by_cases h2 : 0 - e.off + l.length * s ≤ e.cells.length
      · rw [if_pos h2] at h1
        rw [if_pos (by omega)]
        have h1 := Option.some.inj h1
        rw [← h1, List.drop_take, List.drop_drop]
        congr 2
        · omega
        · congr 1; omega
      · rw [if_neg h2] at h1; cases h1
    · rw [if_neg ho] at h1; cases h1
theorem turnN {l : List R4} {kk : Nat} : ((lastW l).drop kk ++ (lastW l).take kk).Perm (lastW l) := by
  conv => rhs; rw [← List.take_append_drop kk (lastW l)]
  exact List.perm_append_comm
theorem lastV_len (ks : List Ky) (n : Nat) : (lastV ks n).length = (lastI ks n).length := by unfold lastV; rw [List.length_map]
end Go.Ev
namespace Go.Proofs.YtincedmdkdjakaaGreat
open Go Go.Ev Go.Proofs
set_option maxRecDepth 100000
set_option maxHeartbeats 4000000
theorem joinT {P : Program} {r : Option Nat} {n i : Nat} {G : Prop} (o : Array Oper) (K : Exit → Tm → Hp → Prop) (T : Tm) (H : Hp) (main : WpV P r n (.region i o false) K T H → G) (rest : WpV P r n (.region i o false) K T H) : G := main rest
def plLast : Plans := fun i => if i = 6 then [(0, 0), (1, 0), (2, 0), (3, 0), (4, 0), (5, 0), (6, 0), (7, 0), (8, 0), (9, 0), (10, 0), (11, 0), (12, 2), (13, 1), (14, 0)] else if i = 7 then [(0, 9)] else if i = 8 then [] else if i = 9 then [(0, 9)] else if i = 19 then [] else if i = 22 then [(0, 9)] else if i = 27 then [(0, 9)] else if i = 29 then [] else if i = 34 then [(0, 9)] else Tryz.pl9 i
attribute [push_cast] plLast
attribute [-push_cast] slAddr evAppend_nil evAppend_some
theorem viewLast_ok {M : Hp} {sr l : List R4} {at_ : Int} {v0 vl : Value} (hm : marksOf M = []) (hs : LiR R4.cells 4 M sr v0) (hl : LiR R4.cells 4 M l vl) (hat : i64In at_)
    (is : ∀ r ∈ sr, r.In) (il : ∀ r ∈ l, r.In) : CallsV Tryz.prog 9 [v0, vl, .int .i64 at_] M (Ret0 (.bool true)) := by
  have hfx := openL_few sr l
  have hkl := keyRw_len l
  obtain ⟨q0, e0, rfl⟩ := LiR.slice hs
  have hl0 := hl
  obtain ⟨p, k, rfl, hla⟩ := LiR.openC R4.len (by decide) hl
  refine callsO gB2_ok Tryz.mix plLast Tryz.func9 rfl Tryz.ntmps9 Tryz.results9 rfl (by first | rfl | assumption) (Nat.le_of_ble_eq_true rfl) (by kernel_rfl) ?_
  simp only [push_cast, seval, reduceCtorEq]
  refine loopO gB2_ok (pl := plLast) Tryz.mix (X := Nat × Value × Hp)
    (fun s => ([(0, .slice q0 sr.length e0), (1, .slice p l.length k), (2, .int .i64 at_), (7, .bool true), (8, s.2.1), (9, .int .i64 s.1)], s.2.2 ++ M))
    (fun s => s.1 ≤ l.length ∧ s.1 ≤ 12 ∧ OutKy (keyRw (l.take s.1)) s.2.1 s.2.2 ∧ freshN s.2.2 M) (fun s => l.length - s.1) (0, .slice none 0 0, []) ?_ ?_ (by kernel_rfl) ?_
  · exact ⟨Nat.zero_le _, Nat.zero_le _, .nil _ _, trivial⟩
  · simp only [push_cast, seval, reduceCtorEq]
    first | done | exact rfl | exact ⟨rfl, subH_self _⟩ | exact subH_self _
  · rintro ⟨i, vo, No⟩ ⟨hi, h15, ho, hf⟩
    dsimp only at hi h15 ho hf ⊢
    have htl : keyRw (l.take i) = (l.take i).map fun r => keyA r.a r.b := by unfold keyRw; rw [List.take_take, Nat.min_eq_right h15]
    by_cases hc : i < l.length ∧ i < 12
    · obtain ⟨hlt, hl15⟩ := hc
      obtain ⟨r, hr'⟩ : ∃ r, l[i]? = some r := ⟨l[i], List.getElem?_eq_getElem hlt⟩
      obtain ⟨ia, ib, -, -⟩ := il r (List.mem_of_getElem? hr')
      rcases hla with hl0 | ⟨b, f, d, kd, cs, rfl, hfe, hat⟩
      · rw [hl0] at hr'; simp at hr'
      obtain ⟨a1, a2⟩ := hat i r hr'
      have a3 : List.take 1 (List.drop (d + i * 4) cs) = [.int .i64 r.a] := by
        have := congrArg (List.take 1) a2
        rwa [List.take_take] at this
      have a4 : List.take 1 (List.drop (d + i * 4 + 1) cs) = [.int .i64 r.b] := by
        have := congrArg (fun q => List.take 1 (List.drop 1 q)) a2
        rw [List.drop_take, List.take_take, List.drop_drop] at this
        exact this
      have a5 : d + i * 4 + 1 ≤ cs.length := by omega
      have a6 : d + i * 4 + 1 + 1 ≤ cs.length := by omega
      have hee := find_behind hf b _ hfe
      have i1 : (i : Int) < (l.length : Int) := by omega
      have i2 : (i : Int) < 12 := by omega
      have hs1 : keyRw (l.take (i + 1)) = keyRw (l.take i) ++ [keyA r.a r.b] := by
        rw [htl]
        unfold keyRw
        rw [List.take_take, Nat.min_eq_right (by omega), List.take_add_one, hr', List.map_append]; rfl
      obtain ⟨po, ko, rfl⟩ := ho.slice
      have hle : (keyRw (l.take i)).length ≤ 12 := keyRw_len _
      simp only [push_cast, seval, reduceCtorEq, i1, i2, hlt, hl15, hee, a3, a4, a5, a6, ia, ib]
      intro b15 hb15
      refine ⟨?_, ?_⟩
      · simp only [push_cast, seval, reduceCtorEq, hb15]
        try exact subH_self _
      have f15 := fresh_app_iff.1 hb15
      refine push_outA (c := Ky.cells) (x := keyA r.a r.b) (by_ := 56) (q := 25) (ag := true) [] ho ⟨f15.1, trivial⟩ (by simp only [push_cast, seval, reduceCtorEq]) (by simp only [push_cast, seval, reduceCtorEq]) (Ky.len _) (Ky.all1 _) (by unfold two47; omega) fun v' N' ho' hf' => ?_
      simp only [push_cast, seval, reduceCtorEq, wrap_i64' (show -9223372036854775808 ≤ (i : Int) + 1 ∧ (i : Int) + 1 ≤ 9223372036854775807 by omega), List.nil_append]
      exact ⟨(i + 1, v', N'), ⟨hlt, by dsimp only; omega, by dsimp only; rw [hs1]; exact ho', freshN_cons hf'⟩, by dsimp only; omega, ⟨rfl, rfl⟩, subH_pre (subH_cons f15.2) N', by simp only [marks_append, marksOf, ho.wr.2, ho'.wr.2]⟩
    · have hfin : keyRw (l.take i) = keyRw l := by
        rw [htl]
        unfold keyRw
        rcases Nat.lt_or_ge i 12 with h | h
        · obtain rfl : i = l.length := by omega
          rw [List.take_length, List.take_of_length_le (by omega)]
        · obtain rfl : i = 12 := by omega
          rfl
      rw [hfin] at ho
      obtain ⟨pk, ck, rfl⟩ := ho.sl
      obtain ⟨M1, hM1⟩ : ∃ M1, M1 = No ++ M := ⟨_, rfl⟩
      have hk1 : LiR Ky.cells 25 M1 (keyRw l) (.slice pk (keyRw l).length ck) := hM1 ▸ ho.liR rfl rfl M
      have hgm1 : marksOf M1 = [] := by rw [hM1, marks_append, ho.wr.2, hm]; rfl
      have hla : LiR R4.cells 4 M1 l (.slice p l.length k) := hM1 ▸ hl0.app hf
      have hsr : LiR R4.cells 4 M1 sr (.slice q0 sr.length e0) := hM1 ▸ hs.app hf
      rw [← hM1]
      apply joinT (P := Tryz.prog) (r := none) (n := 165) (i := 7) (T := [(0, .slice q0 sr.length e0), (1, .slice p l.length k), (2, .int .i64 at_), (7, .bool true), (8, .slice pk (keyRw l).length ck)]) (H := M1)
      case main =>
        intro rest
        by_cases hlt : i < l.length
        · have i1 : (i : Int) < (l.length : Int) := by omega
          have i2 : ¬ (i : Int) < 12 := by omega
          have i3 : ¬ i < 12 := by omega
          simp only [push_cast, seval, reduceCtorEq, i1, i2, hlt, i3]
          exact WpV.slots _ (by simp only [push_cast, seval, reduceCtorEq]) rest
        · have i1 : ¬ (i : Int) < (l.length : Int) := by omega
          simp only [push_cast, seval, reduceCtorEq, i1, hlt]
          exact WpV.slots _ (by simp only [push_cast, seval, reduceCtorEq]) rest
      case rest =>
        refine regO gB2_ok ?_
        simp only [push_cast, seval, reduceCtorEq]
        refine useL [] (rmake_R (R := []) (LiR.nil _ 0) hk1 (Nat.zero_le _) (by omega) (fun k hk => by cases hk) (keyRw_may l)) (MadeQ.rd _ _ _) hgm1 trivial fun w3 M2 hg2 hL2 hq3 => ?_
        obtain ⟨y, rfl, hy⟩ := hq3
        obtain ⟨vr, vw, rfl, h1, h2⟩ := hy
        obtain ⟨pr, kr, rfl⟩ := LiR.slice h1
        obtain ⟨pw, kw, rfl⟩ := LiR.slice h2
        rw [show (setK ([] : List Ky)).length = 0 from rfl] at h1 ⊢
        simp only [push_cast, seval, reduceCtorEq]
        intro b10 hb10
        have hkl2 := setK_len (keyRw l)
        have f10 : fresh b10 M2 := hb10
        try simp only [push_cast, seval, reduceCtorEq, hb10]
        obtain ⟨x0, hx0⟩ : ∃ x0 : Vi, x0 = openL sr l := ⟨_, rfl⟩
        have hfw0 : x0.Few 0 := hx0 ▸ openL_few sr l
        have hfit0 := (openL_few sr l).fit (by decide : 0 ≤ 1000000000)
        have hfit : x0.Fit := hx0 ▸ (openL_few sr l).fit (by decide)
        have hop0 : openV (stateR sr) [] (setK (keyRw l)) = (x0, 0) := by rw [openV_ok (openL_few sr l).ri, hx0]; rfl
        have hs2 := hsr.ext hg2.ext
        have hla := hla.ext hg2.ext
        have hk2 := hk1.ext hg2.ext
        have hm2 := hg2.marks
        have hLX : freshN [⟨b10, 0, .cel 30, [.slice pr 0 kr, .slice pw (setK (keyRw l)).length kw]⟩] M2 := ⟨f10, trivial⟩
        have fB10 : findE (⟨b10, 0, .cel 30, [.slice pr 0 kr, .slice pw (setK (keyRw l)).length kw]⟩ :: M2) b10 = some ⟨b10, 0, .cel 30, [.slice pr 0 kr, .slice pw (setK (keyRw l)).length kw]⟩ := by simp only [push_cast, seval, reduceCtorEq]
        refine drawS gB2_ok Tryz.mix [(1, .slice p l.length k), (2, .int .i64 at_), (7, .bool true), (8, .slice pk (keyRw l).length ck), (0, .slice q0 sr.length e0), (10, .pointer (some ⟨b10, 0, none⟩))]
            (fun i val => match i with
              | 0 => val 0 = .slice q0 sr.length e0
              | 1 => ∃ p k, val 1 = .slice p (stateR sr).length k
              | 2 => val 2 = .agg #[.slice pr 0 kr, .slice pw (setK (keyRw l)).length kw]
              | 3 => ∃ p k p1 k1 p2 k2 p3 k3, val 3 = .tuple #[.agg #[.slice p x0.base.length k, .slice p1 x0.reads.length k1, .slice p2 x0.writes.length k2, .slice p3 x0.cells.length k3], .int .i64 0]
              | 4 => val 4 = val 3 ∧ ∃ p k p1 k1 p2 k2 p3 k3, val 3 = .tuple #[.agg #[.slice p x0.base.length k, .slice p1 x0.reads.length k1, .slice p2 x0.writes.length k2, .slice p3 x0.cells.length k3], .int .i64 0]
              | 5 => ∃ p k p1 k1 p2 k2 p3 k3, val 5 = .agg #[.slice p x0.base.length k, .slice p1 x0.reads.length k1, .slice p2 x0.writes.length k2, .slice p3 x0.cells.length k3] ∧ val 4 = .tuple #[val 5, .int .i64 0]
              | 6 => val 6 = .int .i64 0
              | 7 => ∃ b, val 7 = .pointer (some ⟨b, 0, none⟩)
              | 9 => val 9 = .int .i64 0
              | _ => True)
            (fun i val N => match i with
              | 1 => allWr N ∧ marksOf N = [] ∧ StR (stateR sr) (val 1) (N ++ M2)
              | 3 => allWr N ∧ marksOf N = [] ∧ VeR (x0, 0) (val 3) (N ++ M2)
              | 4 => N = []
              | 5 => N = []
              | 7 => ∃ b, val 7 = .pointer (some ⟨b, 0, none⟩) ∧ N = [⟨b, 0, .cel 33, [.slice none 0 0, .slice none 0 0, .slice none 0 0, .slice none 0 0]⟩]
              | 8 => ∃ b p k p1 k1 p2 k2 p3 k3, val 7 = .pointer (some ⟨b, 0, none⟩) ∧ val 5 = .agg #[.slice p x0.base.length k, .slice p1 x0.reads.length k1, .slice p2 x0.writes.length k2, .slice p3 x0.cells.length k3] ∧ N = [⟨b, 0, .cel 33, [.slice p x0.base.length k, .slice p1 x0.reads.length k1, .slice p2 x0.writes.length k2, .slice p3 x0.cells.length k3]⟩]
              | _ => N = []) (fun i => if i = 3 then [1] else if i = 8 then [7] else []) [3, 8] (by kernel_rfl) (by kernel_rfl) (by kernel_rfl) ?_ (by rfl) (by decide) (by kernel_rfl) ?_ ?_ ?_ ?_ ?_
        · simp only [push_cast, seval, reduceCtorEq, subT]
        · intro i hi hiF
          replace hi : i < 10 := hi
          obtain rfl | rfl | rfl | rfl | rfl | rfl | rfl | rfl | rfl | rfl : i = 0 ∨ i = 1 ∨ i = 2 ∨ i = 3 ∨ i = 4 ∨ i = 5 ∨ i = 6 ∨ i = 7 ∨ i = 8 ∨ i = 9 := by omega
          all_goals first
            | exact .inl fun _ _ h => h
            | exact absurd (by decide) hiF
            | exact .inr (by kernel_rfl)
        · intro i o ho val val' h1 h2 hV
          have hi := (Array.getElem?_eq_some_iff.1 ho).1
          replace hi : i < 10 := hi
          obtain rfl | rfl | rfl | rfl | rfl | rfl | rfl | rfl | rfl | rfl : i = 0 ∨ i = 1 ∨ i = 2 ∨ i = 3 ∨ i = 4 ∨ i = 5 ∨ i = 6 ∨ i = 7 ∨ i = 8 ∨ i = 9 := by omega
          · first
              | exact trivial
              | exact hV
              | exact h1.trans hV
              | (rw [h1]; exact hV)
          · first
              | exact trivial
              | exact hV
              | exact h1.trans hV
              | (rw [h1]; exact hV)
          · first
              | exact trivial
              | exact hV
              | exact h1.trans hV
              | (rw [h1]; exact hV)
          · first
              | exact trivial
              | exact hV
              | exact h1.trans hV
              | (rw [h1]; exact hV)
          · simp only [List.getElem?_toArray, List.getElem?_cons_zero, List.getElem?_cons_succ, Option.some.injEq] at ho; subst ho
            have h5 := h2 3 (by kernel_rfl)
            obtain ⟨a1, a2⟩ := hV
            exact ⟨by rw [h1, h5]; exact a1, by rw [h5]; exact a2⟩
          · simp only [List.getElem?_toArray, List.getElem?_cons_zero, List.getElem?_cons_succ, Option.some.injEq] at ho; subst ho
            have h6 := h2 4 (by kernel_rfl)
            obtain ⟨p, k, p1, k1, p2, k2, p3, k3, a1, a2⟩ := hV
            exact ⟨p, k, p1, k1, p2, k2, p3, k3, by rw [h1]; exact a1, by rw [h6, h1]; exact a2⟩
          · first
              | exact trivial
              | exact hV
              | exact h1.trans hV
              | (rw [h1]; exact hV)
          · first
              | exact trivial
              | exact hV
              | exact h1.trans hV
              | (rw [h1]; exact hV)
          · first
              | exact trivial
              | exact hV
              | exact h1.trans hV
              | (rw [h1]; exact hV)
          · first
              | exact trivial
              | exact hV
              | exact h1.trans hV
              | (rw [h1]; exact hV)
        · intro i o ho val val' N h1 h2 hQ
          have hi := (Array.getElem?_eq_some_iff.1 ho).1
          replace hi : i < 10 := hi
          obtain rfl | rfl | rfl | rfl | rfl | rfl | rfl | rfl | rfl | rfl : i = 0 ∨ i = 1 ∨ i = 2 ∨ i = 3 ∨ i = 4 ∨ i = 5 ∨ i = 6 ∨ i = 7 ∨ i = 8 ∨ i = 9 := by omega
          · first
              | exact trivial
              | exact hQ
              | exact h1.trans hQ
              | (rw [h1]; exact hQ)
          · first
              | exact trivial
              | exact hQ
              | exact h1.trans hQ
              | (rw [h1]; exact hQ)
          · first
              | exact trivial
              | exact hQ
              | exact h1.trans hQ
              | (rw [h1]; exact hQ)
          · first
              | exact trivial
              | exact hQ
              | exact h1.trans hQ
              | (rw [h1]; exact hQ)
          · first
              | exact trivial
              | exact hQ
              | exact h1.trans hQ
              | (rw [h1]; exact hQ)
          · first
              | exact trivial
              | exact hQ
              | exact h1.trans hQ
              | (rw [h1]; exact hQ)
          · first
              | exact trivial
              | exact hQ
              | exact h1.trans hQ
              | (rw [h1]; exact hQ)
          · first
              | exact trivial
              | exact hQ
              | exact h1.trans hQ
              | (rw [h1]; exact hQ)
          · simp only [List.getElem?_toArray, List.getElem?_cons_zero, List.getElem?_cons_succ, Option.some.injEq] at ho; subst ho
            have h10 := h2 7 (by kernel_rfl)
            have h7 := h2 5 (by kernel_rfl)
            obtain ⟨b, p, k, p1, k1, p2, k2, p3, k3, a1, a2, a3⟩ := hQ
            exact ⟨b, p, k, p1, k1, p2, k2, p3, k3, by rw [h10]; exact a1, by rw [h7]; exact a2, a3⟩
          · first
              | exact trivial
              | exact hQ
              | exact h1.trans hQ
              | (rw [h1]; exact hQ)
        · intro i o ho T' Y val mem hT hdep hus hfr hY hmY hapY
          have hi := (Array.getElem?_eq_some_iff.1 ho).1
          replace hi : i < 10 := hi
          have y10 := hY _ _ fB10
          have hM0Y : ∀ b e, findE M2 b = some e → findE Y b = some e := fun b e h => hY b e (find_behind hLX b e h)
          have t10 : getT T' 10 = some (.pointer (some ⟨b10, 0, none⟩)) := hT.2.2.2.2.2.1
          have t0 : getT T' 0 = some (.slice q0 sr.length e0) := hT.2.2.2.2.1
          obtain rfl | rfl | rfl | rfl | rfl | rfl | rfl | rfl | rfl | rfl : i = 0 ∨ i = 1 ∨ i = 2 ∨ i = 3 ∨ i = 4 ∨ i = 5 ∨ i = 6 ∨ i = 7 ∨ i = 8 ∨ i = 9 := by omega
          · simp only [List.getElem?_toArray, List.getElem?_cons_zero, List.getElem?_cons_succ, Option.some.injEq] at ho; subst ho
            simp only [push_cast, seval, reduceCtorEq, List.flatMap_nil, List.flatMap_cons, List.append_nil, List.nil_append, t0]
            exact ⟨[], rfl, trivial, rfl, upd_self _ _ _, rfl⟩
          · simp only [List.getElem?_toArray, List.getElem?_cons_zero, List.getElem?_cons_succ, Option.some.injEq] at ho; subst ho
            obtain ⟨v0, g0⟩ := hdep 0 (by kernel_rfl)
            replace g0 := g0 55 rfl
            rw [show val 0 = _ from v0] at g0
            simp only [push_cast, seval, reduceCtorEq, List.flatMap_nil, List.flatMap_cons, List.append_nil, List.nil_append, g0]
            refine callS (M := M2) (state_ok hs2 is) (StR.rd _) hM0Y fun w N hw hm1 hf hq => ⟨N, rfl, hw, hm1, ?_, ?_⟩
            · obtain ⟨p1, k1, rfl⟩ := hq.slice
              exact ⟨p1, k1, by rw [upd_self]⟩
            · rw [upd_self]; exact ⟨hw, hm1, hq⟩
          · simp only [List.getElem?_toArray, List.getElem?_cons_zero, List.getElem?_cons_succ, Option.some.injEq] at ho; subst ho
            simp only [push_cast, seval, reduceCtorEq, List.flatMap_nil, List.flatMap_cons, List.append_nil, List.nil_append, t10, y10]
            exact ⟨[], rfl, trivial, rfl, upd_self _ _ _, rfl⟩
          · simp only [List.getElem?_toArray, List.getElem?_cons_zero, List.getElem?_cons_succ, Option.some.injEq] at ho; subst ho
            obtain ⟨v1, g1⟩ := hdep 1 (by kernel_rfl)
            replace g1 := g1 56 rfl
            obtain ⟨v2, g2⟩ := hdep 2 (by kernel_rfl)
            replace g2 := g2 57 rfl
            rw [show val 2 = _ from v2] at g2
            obtain ⟨p1, k1, v1⟩ := v1
            have v1 : val 1 = _ := v1
            obtain ⟨w1, m1, hq1⟩ := hus 1 (List.mem_singleton.2 rfl)
            rw [v1] at hq1 g1
            have fr1 : freshN (mem 1) Y := by simpa using hfr
            have fd1 : ∀ b e, findE M2 b = some e → findE (mem 1 ++ M2) b = some e := fun b e he => by rw [findE_freshN fr1 (hM0Y b e he)]; exact he
            simp only [push_cast, seval, reduceCtorEq, List.flatMap_nil, List.flatMap_cons, List.append_nil, List.nil_append, g1, g2]
            refine callS (M := mem 1 ++ M2) (by have := vopen_ok (R := []) hq1 ⟨_, _, rfl, LiR.find fd1 h1, LiR.find fd1 h2⟩ hfit0; rw [hop0] at this; exact this) (VeR.rd _) (find_front hM0Y) fun w N hw hm2 hf hq => ⟨N ++ mem 1, by rw [List.append_assoc], allWr_app hw w1, by rw [marks_append, hm2, m1]; rfl, ?_, ?_⟩
            · obtain ⟨u, rfl, ub, ur, uw, uc, rfl, g1, g2, g3, g4⟩ := hq
              obtain ⟨q1, l1, rfl⟩ := StR.slice g1
              obtain ⟨q2, l2, rfl⟩ := LiR.slice g2
              obtain ⟨q3, l3, rfl⟩ := LiR.slice g3
              obtain ⟨q4, l4, rfl⟩ := LiR.slice g4
              exact ⟨q1, l1, q2, l2, q3, l3, q4, l4, by rw [upd_self]⟩
            · rw [upd_self, List.append_assoc]
              exact ⟨allWr_app hw w1, by rw [marks_append, hm2, m1]; rfl, hq⟩
          · simp only [List.getElem?_toArray, List.getElem?_cons_zero, List.getElem?_cons_succ, Option.some.injEq] at ho; subst ho
            obtain ⟨v3, g3⟩ := hdep 3 (by kernel_rfl)
            replace g3 := g3 58 rfl
            simp only [push_cast, seval, reduceCtorEq, List.flatMap_nil, List.flatMap_cons, List.append_nil, List.nil_append, g3]
            refine ⟨[], rfl, trivial, rfl, ⟨?_, ?_⟩, rfl⟩
            · simp [upd]
            · simpa [upd] using v3
          · simp only [List.getElem?_toArray, List.getElem?_cons_zero, List.getElem?_cons_succ, Option.some.injEq] at ho; subst ho
            obtain ⟨v4, g4⟩ := hdep 4 (by kernel_rfl)
            replace g4 := g4 54 rfl
            obtain ⟨v4, p, k, p1, k1, p2, k2, p3, k3, v3⟩ := v4
            have v4 : val 4 = _ := v4
            rw [v4, v3] at g4
            simp only [push_cast, seval, reduceCtorEq, List.flatMap_nil, List.flatMap_cons, List.append_nil, List.nil_append, g4]
            refine ⟨[], rfl, trivial, rfl, ⟨p, k, p1, k1, p2, k2, p3, k3, ?_, ?_⟩, rfl⟩
            · simp [upd]
            · simp [upd, v4, v3]
          · simp only [List.getElem?_toArray, List.getElem?_cons_zero, List.getElem?_cons_succ, Option.some.injEq] at ho; subst ho
            obtain ⟨v4, g4⟩ := hdep 4 (by kernel_rfl)
            replace g4 := g4 54 rfl
            obtain ⟨v4, p, k, p1, k1, p2, k2, p3, k3, v3⟩ := v4
            have v4 : val 4 = _ := v4
            rw [v4, v3] at g4
            simp only [push_cast, seval, reduceCtorEq, List.flatMap_nil, List.flatMap_cons, List.append_nil, List.nil_append, g4]
            exact ⟨[], rfl, trivial, rfl, upd_self _ _ _, rfl⟩
          · simp only [List.getElem?_toArray, List.getElem?_cons_zero, List.getElem?_cons_succ, Option.some.injEq] at ho; subst ho
            simp only [push_cast, seval, reduceCtorEq, List.flatMap_nil, List.flatMap_cons, List.append_nil, List.nil_append]
            intro b hf
            exact ⟨[_], rfl, ⟨trivial, trivial⟩, rfl, ⟨b, upd_self _ _ _⟩, b, upd_self _ _ _, rfl⟩
          · simp only [List.getElem?_toArray, List.getElem?_cons_zero, List.getElem?_cons_succ, Option.some.injEq] at ho; subst ho
            obtain ⟨v5, g5⟩ := hdep 5 (by kernel_rfl)
            replace g5 := g5 59 rfl
            obtain ⟨v7, g7⟩ := hdep 7 (by kernel_rfl)
            replace g7 := g7 12 rfl
            obtain ⟨p, k, p1, k1, p2, k2, p3, k3, v5, -⟩ := v5
            have v5 : val 5 = _ := v5
            rw [v5] at g5
            obtain ⟨b7, v7, hN⟩ := hus 7 (List.mem_singleton.2 rfl)
            have v7 : val 7 = _ := v7
            rw [v7] at g7
            simp only [push_cast, seval, reduceCtorEq, List.flatMap_nil, List.flatMap_cons, List.append_nil, List.nil_append, g5, g7, hN, List.cons_append]
            refine ⟨[_], rfl, ⟨trivial, trivial⟩, rfl, b7, p, k, p1, k1, p2, k2, p3, k3, ?_, ?_, rfl⟩
            · simp [upd, v7]
            · simp [upd, v5]
          · simp only [List.getElem?_toArray, List.getElem?_cons_zero, List.getElem?_cons_succ, Option.some.injEq] at ho; subst ho
            obtain ⟨v6, g6⟩ := hdep 6 (by kernel_rfl)
            replace g6 := g6 60 rfl
            rw [show val 6 = _ from v6] at g6
            simp only [push_cast, seval, reduceCtorEq, List.flatMap_nil, List.flatMap_cons, List.append_nil, List.nil_append, g6]
            exact ⟨[], rfl, trivial, rfl, upd_self _ _ _, rfl⟩
        · intro val mem hV hQ hap hwr
          obtain ⟨w3, m3, u3, hu3, hq3⟩ := hQ 3 (by decide)
          obtain ⟨b12, x1, y1, x2, y2, x3, y3, x4, y4, v7, v5, hN8⟩ := hQ 8 (by decide)
          obtain ⟨h4, -⟩ := hV 4 (by decide)
          obtain ⟨-, -, -, -, -, -, -, -, -, h45⟩ := hV 5 (by decide)
          have v9 : val 9 = .int .i64 0 := hV 9 (by decide)
          have v7 : val 7 = _ := v7
          have v5 : val 5 = _ := v5
          have hu3 : val 3 = _ := hu3
          have h4 : val 4 = val 3 := h4
          have h45 : val 4 = .tuple #[val 5, .int .i64 0] := h45
          rw [h4, hu3, v5] at h45
          have hs5 : u3 = .agg #[.slice x1 x0.base.length y1, .slice x2 x0.reads.length y2, .slice x3 x0.writes.length y3, .slice x4 x0.cells.length y4] := by injection h45 with h; have h1 := congrArg Array.toList h; simp only [List.cons.injEq] at h1; exact h1.1
          subst hs5
          have hMM : List.flatMap mem [3, 8] ++ (⟨b10, 0, .cel 30, [.slice pr 0 kr, .slice pw (setK (keyRw l)).length kw]⟩ :: M2) = mem 3 ++ (⟨b12, 0, .cel 33, [.slice x1 x0.base.length y1, .slice x2 x0.reads.length y2, .slice x3 x0.writes.length y3, .slice x4 x0.cells.length y4]⟩ :: ⟨b10, 0, .cel 30, [.slice pr 0 kr, .slice pw (setK (keyRw l)).length kw]⟩ :: M2) := by
            simp only [List.flatMap_cons, List.flatMap_nil, List.append_nil, hN8, List.append_assoc, List.cons_append, List.nil_append]
          rw [hMM] at hap ⊢
          have a5 := freshN_apart hap w3
          have hap' := (List.pairwise_append.1 hap).2.1
          have a7 := freshN_apart (A := [⟨b12, 0, .cel 33, [.slice x1 x0.base.length y1, .slice x2 x0.reads.length y2, .slice x3 x0.writes.length y3, .slice x4 x0.cells.length y4]⟩]) hap' ⟨trivial, trivial⟩
          have q57 := freshN_sym a5
          have hb12 := a7.1
          simp only [push_cast, seval, reduceCtorEq] at hb12
          have f12 : fresh b12 (M2 ++ mem 3) := fresh_app_iff.2 ⟨hb12.2.2, q57.1⟩
          have f10 : fresh b10 (M2 ++ mem 3) := fresh_app_iff.2 ⟨f10, q57.2.1⟩
          have hg3 : Gr M2 (M2 ++ mem 3) := ⟨hm2, mem 3, rfl, w3, m3⟩
          have hx : ViR x0 (.agg #[.slice x1 x0.base.length y1, .slice x2 x0.reads.length y2, .slice x3 x0.writes.length y3, .slice x4 x0.cells.length y4]) (M2 ++ mem 3) := ViR.rd _ _ _ _ (cellsAt_swap (freshN_cons (freshN_cons a5))) hq3
          simp only [push_cast, seval, reduceCtorEq, v5, v7, v9]
          refine WpV.perm (H' := ⟨b12, 0, .cel 33, [.slice x1 x0.base.length y1, .slice x2 x0.reads.length y2, .slice x3 x0.writes.length y3, .slice x4 x0.cells.length y4]⟩ :: ⟨b10, 0, .cel 30, [.slice pr 0 kr, .slice pw (setK (keyRw l)).length kw]⟩ :: (M2 ++ mem 3)) ?_ ?_ ?_
          · exact List.perm_append_comm
          · simp [marks_append, marksOf, m3, hm2]
          refine WpV.slots [(1, .slice p l.length k), (2, .int .i64 at_), (7, .bool true), (8, .slice pk (keyRw l).length ck), (10, .pointer (some ⟨b10, 0, none⟩)), (12, .pointer (some ⟨b12, 0, none⟩)), (13, .int .i64 0)] (by simp only [push_cast, seval, reduceCtorEq]) ?_
          generalize M2 ++ mem 3 = M3 at hg3 hx f12 f10 ⊢
          have hla := hla.ext hg3.ext
          have hk2 := hk2.ext hg3.ext
          have hm3 := hg3.marks
          refine regO gB2_ok ?_
          simp only [push_cast, seval, reduceCtorEq, hb12]
          obtain ⟨pk', ck', he, hkat⟩ := LiR.openC Ky.len (by decide) hk2
          cases he
          obtain ⟨p', k', he, hlat⟩ := LiR.openC R4.len (by decide) hla
          cases he
          obtain ⟨ks, hks⟩ : ∃ ks, ks = keyRw l := ⟨_, rfl⟩
          rw [← hks] at hkl hkl2 hk2 hkat ⊢
          refine loopO gB2_ok (pl := plLast) Tryz.mix (X := {x : (Nat × Value) × Hp // freshN x.2 M3 ∧ fresh b12 (x.2 ++ M3) ∧ fresh b10 (x.2 ++ M3)})
            (fun x => ([(1, .slice p l.length k), (2, .int .i64 at_), (7, .bool true), (8, .slice pk ks.length ck), (10, .pointer (some ⟨b10, 0, none⟩)), (12, .pointer (some ⟨b12, 0, none⟩)), (14, x.1.1.2), (15, .int .i64 x.1.1.1)], ⟨b12, 0, .cel 33, [.slice x1 x0.base.length y1, .slice x2 x0.reads.length y2, .slice x3 x0.writes.length y3, .slice x4 x0.cells.length y4]⟩ :: ⟨b10, 0, .cel 30, [.slice pr 0 kr, .slice pw (setK ks).length kw]⟩ :: (x.1.2 ++ M3)))
            (fun x => x.1.1.1 ≤ ks.length ∧ OutG 3 1 ((lastV ks x.1.1.1).flatMap intC) (lastV ks x.1.1.1).length x.1.1.2 x.1.2) (fun x => ks.length - x.1.1.1) ⟨((0, .slice none 0 0), []), trivial, f12, f10⟩ ?_ ?_ (by kernel_rfl) ?_
          · exact ⟨Nat.zero_le _, .inl ⟨rfl, rfl, rfl, rfl⟩⟩
          · simp only [push_cast, seval, reduceCtorEq, hb12]
            try exact subH_self _
          · rintro ⟨⟨⟨i, vl⟩, N⟩, hfN, r12, r10⟩ ⟨hi, ho⟩
            dsimp only at hi ho hfN r12 r10 ⊢
            obtain ⟨pl, cl, rfl⟩ := ho.slice
            by_cases hc : i < ks.length
            · obtain ⟨y, hy⟩ : ∃ y, ks[i]? = some y := ⟨ks[i], List.getElem?_eq_getElem hc⟩
              rcases hkat with hl0 | ⟨bk, fk, dk, kdk, ck2, hpk, hfk, hkat⟩
              · rw [hl0] at hy; simp at hy
              obtain ⟨a1, a2⟩ := hkat i y hy
              have hek : findE (N ++ M3) bk = some ⟨bk, fk, kdk, ck2⟩ := find_behind hfN _ _ hfk
              have d12 := (fresh_findS r12 hek).2
              have d10 := (fresh_findS r10 hek).2
              have i1 : (i : Int) < (ks.length : Int) := by omega
              simp only [push_cast, seval, reduceCtorEq, hc, i1, hb12, wrap_i64' (show -9223372036854775808 ≤ (i : Int) + 1 ∧ (i : Int) + 1 ≤ 9223372036854775807 by omega)]
              refine loopO gB2_ok (pl := plLast) Tryz.mix (X := Nat)
                (fun q => ([(1, .slice p l.length k), (2, .int .i64 at_), (7, .bool true), (8, .slice pk ks.length ck), (10, .pointer (some ⟨b10, 0, none⟩)), (12, .pointer (some ⟨b12, 0, none⟩)), (14, .slice pl (lastV ks i).length cl), (15, .int .i64 i), (16, .bool (isUp ks i q)), (17, .int .i64 q)], ⟨b12, 0, .cel 33, [.slice x1 x0.base.length y1, .slice x2 x0.reads.length y2, .slice x3 x0.writes.length y3, .slice x4 x0.cells.length y4]⟩ :: ⟨b10, 0, .cel 30, [.slice pr 0 kr, .slice pw (setK ks).length kw]⟩ :: (N ++ M3)))
                (fun q => i + 1 ≤ q ∧ q ≤ ks.length) (fun q => ks.length - q) (i + 1) ?_ ?_ (by kernel_rfl) ?_
              · exact ⟨Nat.le_refl _, hc⟩
              · simp only [push_cast, seval, reduceCtorEq, hb12, isUp_0]
                try exact subH_self _
              · intro q hq
                obtain ⟨hq1, hq2⟩ := hq
                by_cases hcq : q < ks.length
                · obtain ⟨x, hxq⟩ : ∃ x, ks[q]? = some x := ⟨ks[q], List.getElem?_eq_getElem hcq⟩
                  obtain ⟨a3, a4⟩ := hkat q x hxq
                  have i2 : (q : Int) < (ks.length : Int) := by omega
                  have hup := isUp_s (by omega : i < q) hxq hy
                  simp only [push_cast, seval, reduceCtorEq, hcq, i2, hb12]
                  cases hu : isUp ks i q
                  all_goals
                    rw [hu] at hup
                    try rw [Bool.false_and] at hup
                    try rw [Bool.true_and] at hup
                    refine drawO gB2_ok Tryz.mix (Tryz.pl9 19) (by kernel_rfl) ?_
                    simp only [push_cast, seval, reduceCtorEq, hcq, i2, hc, i1, hb12, hu, hpk, a1, a2, a3, a4, hek, d12, d10, wrap_i64' (show -9223372036854775808 ≤ (q : Int) + 1 ∧ (q : Int) + 1 ≤ 9223372036854775807 by omega)]
                    exact ⟨q + 1, ⟨by omega, by omega⟩, by omega, by rw [hup], rfl⟩
                · obtain rfl : q = ks.length := by omega
                  have i2 : ¬ (ks.length : Int) < (ks.length : Int) := by omega
                  simp only [push_cast, seval, reduceCtorEq, hcq, i2, hb12, isUp_n]
                  cases hla1 : isLast ks i
                  · simp only [push_cast, seval, reduceCtorEq, hcq, i2, hb12, isUp_n, hla1, wrap_i64' (show -9223372036854775808 ≤ (i : Int) + 1 ∧ (i : Int) + 1 ≤ 9223372036854775807 by omega)]
                    exact ⟨⟨((i + 1, .slice pl (lastV ks i).length cl), N), hfN, r12, r10⟩, ⟨hc, by dsimp only; rw [lastV_f hla1]; exact ho⟩, by dsimp only; omega, ⟨rfl, rfl⟩, subH_self _, rfl⟩
                  · simp only [push_cast, seval, reduceCtorEq, hcq, i2, hb12, isUp_n, hla1, wrap_i64' (show -9223372036854775808 ≤ (i : Int) + 1 ∧ (i : Int) + 1 ≤ 9223372036854775807 by omega)]
                    intro bs hbs
                    have hll : (lastV ks i).length ≤ 12 := by rw [lastV_len]; have := lastI_len ks i; omega
                    have zs : fresh bs N := (fresh_app_iff.1 hbs.2.2.2.2).1
                    have z12 : fresh b12 N := (fresh_app_iff.1 r12).1
                    have z10 : fresh b10 N := (fresh_app_iff.1 r10).1
                    refine push_gA (P := Tryz.prog) (c := intC) (x := (i : Int)) [_, _] (by_ := 8) (q := 1) (ag := false) ho ⟨zs, z12, z10, trivial⟩ (by simp only [push_cast, seval, reduceCtorEq]) (by simp only [push_cast, seval, reduceCtorEq]) rfl rfl (by unfold two47; omega) fun v3 N3 ho4 hf4 => ?_
                    rw [← lastV_t hla1] at ho4
                    obtain ⟨p3, k3, hv3⟩ := ho4.slice
                    subst hv3
                    have w0 := ho.wr.2
                    rcases ho4 with ⟨r1, -⟩ | ⟨bu, cu, r3, r4, r5, hN3⟩
                    · rw [lastV_t hla1, List.length_append] at r1; simp at r1
                    obtain ⟨hq3, -⟩ := (show freshN [⟨bu, 0, .vec 3 1 cu, (lastV ks (i + 1)).flatMap intC⟩] _ from hN3 ▸ hf4)
                    rw [hN3]
                    have hbu := hq3
                    simp only [push_cast, seval, reduceCtorEq] at hbu
                    simp only [push_cast, seval, reduceCtorEq, hbs, hbu, hb12, wrap_i64' (show -9223372036854775808 ≤ (i : Int) + 1 ∧ (i : Int) + 1 ≤ 9223372036854775807 by omega)]
                    obtain ⟨-, -, u12, u12', u10, u10', uM⟩ := hbu
                    refine ⟨⟨((i + 1, .slice p3 (lastV ks (i + 1)).length k3), [⟨bu, 0, .vec 3 1 cu, (lastV ks (i + 1)).flatMap intC⟩]), ⟨uM, trivial⟩, ⟨u12', u12, f12⟩, ⟨u10', u10, f10⟩⟩, ⟨hc, .inr ⟨bu, cu, r3, r4, r5, rfl⟩⟩, by dsimp only; omega, ⟨rfl, rfl⟩, ?_, ?_⟩
                    · exact subH_pre (subH_cons (fresh_app_iff.1 hbs.2.2.2.2).2) [_]
                    · simp [marksOf, w0]
            · obtain rfl : i = ks.length := by omega
              have i1 : ¬ (ks.length : Int) < (ks.length : Int) := by omega
              simp only [push_cast, seval, reduceCtorEq, hc, i1, hb12]
              obtain ⟨hcl, hpl⟩ := ho.capL
              obtain ⟨Mq, hMq⟩ : ∃ Mq, Mq = N ++ M3 := ⟨_, rfl⟩
              have hmq : marksOf Mq = [] := by rw [hMq, marks_append, ho.wr.2, hm3]; rfl
              have hxq : ViR x0 (.agg #[.slice x1 x0.base.length y1, .slice x2 x0.reads.length y2, .slice x3 x0.writes.length y3, .slice x4 x0.cells.length y4]) Mq := hMq ▸ hx.find (find_behind hfN)
              have hLq : LiR intC 1 Mq (lastV ks ks.length) (.slice pl (lastV ks ks.length).length cl) := hMq ▸ ho.liR rfl rfl M3
              have hkq : LiR Ky.cells 25 Mq ks (.slice pk ks.length ck) := hMq ▸ hk2.app hfN
              have hlq : LiR R4.cells 4 Mq l (.slice p l.length k) := hMq ▸ hla.app hfN
              rw [← hMq] at r12 r10 ⊢
              clear hkat hlat hk2 hla hx ho
              obtain ⟨pk', ck', he, hkat⟩ := LiR.openC Ky.len (by decide) hkq
              cases he
              obtain ⟨p', k', he, hlat⟩ := LiR.openC R4.len (by decide) hlq
              cases he
              refine regO gB2_ok ?_
              simp only [push_cast, seval, reduceCtorEq, hb12]
              intro b18 hb18
              have f18 : fresh b18 Mq := hb18.2.2.2.2
              have hcl0 := cellsW_len l
              rw [← hks] at hcl0
              refine loopO gB2_ok (pl := plLast) Tryz.mix (X := Nat × (Value × Value × Value × Value) × Hp)
                (fun q => ([(1, .slice p l.length k), (2, .int .i64 at_), (7, .bool true), (8, .slice pk ks.length ck), (10, .pointer (some ⟨b10, 0, none⟩)), (12, .pointer (some ⟨b12, 0, none⟩)), (14, .slice pl (lastV ks ks.length).length cl), (18, .pointer (some ⟨b18, 0, none⟩)), (19, .int .i64 q.1)], ⟨b18, 0, .cel 33, [q.2.1.1, q.2.1.2.1, q.2.1.2.2.1, q.2.1.2.2.2]⟩ :: ⟨b12, 0, .cel 33, [.slice x1 x0.base.length y1, .slice x2 x0.reads.length y2, .slice x3 x0.writes.length y3, .slice x4 x0.cells.length y4]⟩ :: ⟨b10, 0, .cel 30, [.slice pr 0 kr, .slice pw (setK ks).length kw]⟩ :: q.2.2))
                (fun q => q.1 ≤ ks.length ∧ Gr Mq q.2.2 ∧ ViR (runC x0 ((cellsW l).take q.1)) (.agg #[q.2.1.1, q.2.1.2.1, q.2.1.2.2.1, q.2.1.2.2.2]) q.2.2 ∧ fresh b18 q.2.2 ∧ fresh b12 q.2.2 ∧ fresh b10 q.2.2) (fun q => ks.length - q.1) (0, (.slice x1 x0.base.length y1, .slice x2 x0.reads.length y2, .slice x3 x0.writes.length y3, .slice x4 x0.cells.length y4), Mq) ?_ ?_ (by kernel_rfl) ?_
              · exact ⟨Nat.zero_le _, Gr.refl hmq, hxq, f18, r12, r10⟩
              · simp only [push_cast, seval, reduceCtorEq, hb18, hb12]
                try exact subH_self _
              · rintro ⟨j, ⟨u1, u2, u3, u4⟩, Mj⟩ ⟨hj, hgj, hvj, f18, f12, f10⟩
                dsimp only at hj hgj hvj f18 f12 f10 ⊢
                have hgm := hgj.marks
                by_cases hcj : j < ks.length
                · obtain ⟨K, hKj⟩ : ∃ K, ks[j]? = some K := ⟨ks[j], List.getElem?_eq_getElem hcj⟩
                  obtain ⟨r, hr1, hr2, hr3⟩ := keyRw_at (hks ▸ hKj)
                  have hmK : mayKy K := hr2 ▸ keyA_may _ _
                  rcases hkat with hl0 | ⟨bk, fk, dk, kdk, ck2, hpk, hfk, hkat⟩
                  · rw [hl0] at hKj; simp at hKj
                  rcases hlat with hl0 | ⟨br, fr, dr, kdr, cr2, hpr, hfr, hlat⟩
                  · rw [hl0] at hr1; simp at hr1
                  obtain ⟨a1, a2⟩ := hkat j K hKj
                  obtain ⟨a3, a4⟩ := hlat j r hr1
                  have hrl : j < l.length := (List.getElem?_eq_some_iff.1 hr1).1
                  have hek := hgj.find hfk
                  have her := hgj.find hfr
                  have d18 := (fresh_findS f18 hek).2
                  have d12 := (fresh_findS f12 hek).2
                  have d10 := (fresh_findS f10 hek).2
                  have e18 := (fresh_findS f18 her).2
                  have e12 := (fresh_findS f12 her).2
                  have e10 := (fresh_findS f10 her).2
                  have i1 : (j : Int) < (ks.length : Int) := by omega
                  have i2 : (j : Int) < (l.length : Int) := by omega
                  have hfj : (runC x0 ((cellsW l).take j)).Fit := (runC_few ((cellsW l).take j) hfw0).fit (by rw [List.length_take]; omega)
                  have hsj : runC x0 ((cellsW l).take (j + 1)) = (putV (runC x0 ((cellsW l).take j)) (cellR K r.c r.d)).1 := by
                    rw [List.take_add_one, hr3, Option.toList_some, runC_snoc, hr2]; rfl
                  have er : Value.agg r.cells.toArray = r.v := rfl
                  simp only [push_cast, seval, reduceCtorEq, hcj, i1, i2, hrl, hb18, hb12, hpk, hpr, a1, a2, a3, a4, hek, her, d18, d12, d10, e18, e12, e10, er]
                  refine useL [_, _, _] (lawput_R (r := r) hvj hfj hmK (il r (List.mem_of_getElem? hr1))) (ViR.rd _) hgm ⟨f18, f12, f10, trivial⟩ fun w M7 hg7 hL7 hv7 => ?_
                  rw [← hsj] at hv7
                  obtain ⟨p, k, p1, k1, p2, k2, p3, k3, rfl⟩ := hv7.e4
                  simp only [push_cast, seval, reduceCtorEq, hcj, hb18, hb12, wrap_i64' (show -9223372036854775808 ≤ (j : Int) + 1 ∧ (j : Int) + 1 ≤ 9223372036854775807 by omega)]
                  exact ⟨subH_gr (N := []) trivial hg7, (j + 1, (_, _, _, _), M7), ⟨hcj, hgj.trans hg7, hv7, hL7.1, hL7.2.1, hL7.2.2.1⟩, by dsimp only; omega, rfl, ⟨rfl, subH_self _⟩, rfl⟩
                · obtain rfl : j = ks.length := by omega
                  have i1 : ¬ (ks.length : Int) < (ks.length : Int) := by omega
                  rw [List.take_of_length_le (by omega)] at hvj
                  obtain ⟨pu1, ku1, pu2, ku2, pu3, ku3, pu4, ku4, he⟩ := hvj.e4
                  injection he with he
                  have he := congrArg Array.toList he
                  simp only [List.cons.injEq, and_true] at he
                  obtain ⟨rfl, rfl, rfl, rfl⟩ := he
                  simp only [push_cast, seval, reduceCtorEq, hcj, i1, hb18, hb12]
                  refine regO gB2_ok ?_
                  have hll : (lastV ks ks.length).length ≤ 12 := by rw [lastV_len]; have := lastI_len ks ks.length; omega
                  have hn0 : (0 : Int) < ((lastV ks ks.length).length : Int) + 1 := by omega
                  have hn1 : i64In (((lastV ks ks.length).length : Int) + 1) := ⟨by omega, by omega⟩
                  have hkp := pickN_lt at_ hn0
                  obtain ⟨kk, hkk⟩ : ∃ kk, kk = pickN at_ (((lastV ks ks.length).length : Int) + 1) := ⟨_, rfl⟩
                  rw [← hkk] at hkp
                  simp only [push_cast, seval, reduceCtorEq, hb18, hb12, wrap_i64' (show -9223372036854775808 ≤ ((lastV ks ks.length).length : Int) + 1 ∧ ((lastV ks ks.length).length : Int) + 1 ≤ 9223372036854775807 by omega), hat, hn0, hn1, ← hkk]
                  intro b20 hb20
                  have f20 : fresh b20 Mj := hb20.2.2.2.2.2.2
                  have k1 : kk ≤ cl := by omega
                  have k2 : (kk : Int) ≤ (cl : Int) := by omega
                  have k3 : (0 : Int) ≤ (kk : Int) := by omega
                  have k4 : kk ≤ (lastV ks ks.length).length := by omega
                  have k5 : (kk : Int) ≤ ((lastV ks ks.length).length : Int) := by omega
                  have k6 : 0 ≤ kk := Nat.zero_le _
                  refine drawO gB2_ok Tryz.mix (Tryz.pl9 29) (by kernel_rfl) ?_
                  simp only [push_cast, seval, reduceCtorEq, hb18, hb12, hb20, k1, k2, k3, k4, k5, k6]
                  have hi1 : ∀ x, (intC x).length = 1 := fun _ => rfl
                  have hLj := hLq.ext hgj.ext
                  have hXX : freshN [⟨b20, 0, .cel 33, [.slice x1 x0.base.length y1, .slice x2 x0.reads.length y2, .slice x3 x0.writes.length y3, .slice x4 x0.cells.length y4]⟩, ⟨b18, 0, .cel 33, [.slice pu1 (runC x0 (cellsW l)).base.length ku1, .slice pu2 (runC x0 (cellsW l)).reads.length ku2, .slice pu3 (runC x0 (cellsW l)).writes.length ku3, .slice pu4 (runC x0 (cellsW l)).cells.length ku4]⟩, ⟨b12, 0, .cel 33, [.slice x1 x0.base.length y1, .slice x2 x0.reads.length y2, .slice x3 x0.writes.length y3, .slice x4 x0.cells.length y4]⟩, ⟨b10, 0, .cel 30, [.slice pr 0 kr, .slice pw (setK ks).length kw]⟩] Mj := ⟨f20, f18, f12, f10, trivial⟩
                  have hd := (LiR.dropL hi1 hLj hcl hpl k4).app hXX
                  have ht := (LiR.take hi1 hLj k4).app hXX
                  have hsrc := hd.src (P := Tryz.prog) (xt := 86) (q := 1) (ag := false) (by simp only [push_cast, seval, reduceCtorEq])
                  rw [List.length_drop] at hsrc
                  refine append_g (P := Tryz.prog) (e := 3) (sz := 1) (by_ := 8) (N := []) (cs := []) (n := 0) (m := (lastV ks ks.length).length - kk) (ys := ((lastV ks ks.length).drop kk).flatMap intC) (.inl ⟨rfl, rfl, rfl, rfl⟩) (by simp only [push_cast, seval, reduceCtorEq]) hsrc (by rw [flatMap_len (s := 1) (fun _ => rfl), List.length_drop]) (intAll _) (by unfold two47; omega) fun v3 N3 ho3 hf3 => ?_
                  rw [List.nil_append, Nat.zero_add] at ho3
                  simp only [push_cast, seval, reduceCtorEq, slAddrL0 hpl]
                  have hsrc := (ht.app hf3).src (P := Tryz.prog) (xt := 86) (q := 1) (ag := false) (by simp only [push_cast, seval, reduceCtorEq])
                  rw [List.length_take, Nat.min_eq_left k4] at hsrc
                  refine append_g (P := Tryz.prog) (e := 3) (sz := 1) (by_ := 8) (N := N3) (n := (lastV ks ks.length).length - kk) (m := kk) (ys := ((lastV ks ks.length).take kk).flatMap intC) ho3 (by simp only [push_cast, seval, reduceCtorEq]) hsrc (by rw [flatMap_len (s := 1) (fun _ => rfl), List.length_take, Nat.min_eq_left k4]) (intAll _) (by unfold two47; omega) fun v4 N4 ho4 hf4 => ?_
                  rw [← List.flatMap_append, Nat.sub_add_cancel k4] at ho4
                  obtain ⟨pt, ct, rfl⟩ := ho4.slice
                  simp only [push_cast, seval, reduceCtorEq]
                  have w4 := ho4.wr.2
                  have hf5 : freshN N4 Mj := freshN_cons (freshN_cons (freshN_cons (freshN_cons hf4)))
                  have q4 := freshN_sym hf4
                  refine WpV.perm (H' := ⟨b20, 0, .cel 33, [.slice x1 x0.base.length y1, .slice x2 x0.reads.length y2, .slice x3 x0.writes.length y3, .slice x4 x0.cells.length y4]⟩ :: ⟨b18, 0, .cel 33, [.slice pu1 (runC x0 (cellsW l)).base.length ku1, .slice pu2 (runC x0 (cellsW l)).reads.length ku2, .slice pu3 (runC x0 (cellsW l)).writes.length ku3, .slice pu4 (runC x0 (cellsW l)).cells.length ku4]⟩ :: ⟨b12, 0, .cel 33, [.slice x1 x0.base.length y1, .slice x2 x0.reads.length y2, .slice x3 x0.writes.length y3, .slice x4 x0.cells.length y4]⟩ :: ⟨b10, 0, .cel 30, [.slice pr 0 kr, .slice pw (setK ks).length kw]⟩ :: (N4 ++ Mj)) (List.perm_append_comm_assoc N4 [_, _, _, _] Mj) (by simp [marks_append, marksOf, w4]) ?_
                  have hfd := find_behind (M := Mj) hf5
                  obtain ⟨TN, hTN⟩ : ∃ TN, TN = (lastW l).drop kk ++ (lastW l).take kk := ⟨_, rfl⟩
                  have hTp : TN.Perm (lastW l) := hTN ▸ turnN
                  have hTe : (lastV ks ks.length).drop kk ++ (lastV ks ks.length).take kk = TN.map fun i : Nat => (i : Int) := by
                    rw [hTN]
                    unfold lastW lastV
                    rw [← hks, ← List.map_drop, ← List.map_take, ← List.map_append]
                  have hlw : (lastW l).length = (lastV ks ks.length).length := by rw [lastV_len, hks]; rfl
                  have hTl : TN.length = (lastV ks ks.length).length := hTp.length_eq.trans hlw
                  obtain ⟨hA1, hA2, hA3⟩ := last_all sr l hTp
                  rw [← hx0] at hA1 hA2 hA3
                  rw [hTe] at ho4
                  obtain ⟨Mr, hMr⟩ : ∃ Mr, Mr = N4 ++ Mj := ⟨_, rfl⟩
                  have hmr : marksOf Mr = [] := by rw [hMr, marks_append, w4, hgm]; rfl
                  have hxr : ViR x0 (.agg #[.slice x1 x0.base.length y1, .slice x2 x0.reads.length y2, .slice x3 x0.writes.length y3, .slice x4 x0.cells.length y4]) Mr := hMr ▸ (hxq.ext hgj.ext).find hfd
                  have hvr : ViR (runC x0 (cellsW l)) (.agg #[.slice pu1 (runC x0 (cellsW l)).base.length ku1, .slice pu2 (runC x0 (cellsW l)).reads.length ku2, .slice pu3 (runC x0 (cellsW l)).writes.length ku3, .slice pu4 (runC x0 (cellsW l)).cells.length ku4]) Mr := hMr ▸ hvj.find hfd
                  have hTr : LiR intC 1 Mr (TN.map fun i : Nat => (i : Int)) (.slice pt (lastV ks ks.length).length ct) := hMr ▸ ho4.liR (by rw [List.length_map, hTl]) rfl Mj
                  have hkr : LiR Ky.cells 25 Mr ks (.slice pk ks.length ck) := hMr ▸ (hkq.ext hgj.ext).app hf5
                  have hlr : LiR R4.cells 4 Mr l (.slice p l.length k) := hMr ▸ (hlq.ext hgj.ext).app hf5
                  have f20 : fresh b20 Mr := hMr ▸ fresh_app_iff.2 ⟨q4.1, f20⟩
                  have f18 : fresh b18 Mr := hMr ▸ fresh_app_iff.2 ⟨q4.2.1, f18⟩
                  have f12 : fresh b12 Mr := hMr ▸ fresh_app_iff.2 ⟨q4.2.2.1, f12⟩
                  have f10 : fresh b10 Mr := hMr ▸ fresh_app_iff.2 ⟨q4.2.2.2.1, f10⟩
                  rw [← hMr]
                  clear hkat hlat
                  obtain ⟨pk', ck', he, hkat⟩ := LiR.openC Ky.len (by decide) hkr
                  cases he
                  obtain ⟨p', k', he, hlat⟩ := LiR.openC R4.len (by decide) hlr
                  cases he
                  have hTr2 : LiR intC 1 Mr (TN.map fun i : Nat => (i : Int)) (.slice pt (TN.map fun i : Nat => (i : Int)).length ct) := by rw [List.length_map, hTl]; exact hTr
                  obtain ⟨pt', ct', he, htat⟩ := LiR.openC (c := intC) (s := 1) hi1 (by decide) hTr2
                  cases he
                  refine loopO gB2_ok (pl := plLast) Tryz.mix (X := Nat × (Value × Value × Value × Value) × Hp)
                    (fun q => ([(1, .slice p l.length k), (2, .int .i64 at_), (7, .bool true), (8, .slice pk ks.length ck), (10, .pointer (some ⟨b10, 0, none⟩)), (12, .pointer (some ⟨b12, 0, none⟩)), (14, .slice pl (lastV ks ks.length).length cl), (18, .pointer (some ⟨b18, 0, none⟩)), (20, .pointer (some ⟨b20, 0, none⟩)), (22, .slice pt (lastV ks ks.length).length ct), (23, .int .i64 q.1)], ⟨b20, 0, .cel 33, [q.2.1.1, q.2.1.2.1, q.2.1.2.2.1, q.2.1.2.2.2]⟩ :: ⟨b18, 0, .cel 33, [.slice pu1 (runC x0 (cellsW l)).base.length ku1, .slice pu2 (runC x0 (cellsW l)).reads.length ku2, .slice pu3 (runC x0 (cellsW l)).writes.length ku3, .slice pu4 (runC x0 (cellsW l)).cells.length ku4]⟩ :: ⟨b12, 0, .cel 33, [.slice x1 x0.base.length y1, .slice x2 x0.reads.length y2, .slice x3 x0.writes.length y3, .slice x4 x0.cells.length y4]⟩ :: ⟨b10, 0, .cel 30, [.slice pr 0 kr, .slice pw (setK ks).length kw]⟩ :: q.2.2))
                    (fun q => q.1 ≤ TN.length ∧ Gr Mr q.2.2 ∧ ViR (runC x0 ((TN.map (atC l)).take q.1)) (.agg #[q.2.1.1, q.2.1.2.1, q.2.1.2.2.1, q.2.1.2.2.2]) q.2.2 ∧ fresh b20 q.2.2 ∧ fresh b18 q.2.2 ∧ fresh b12 q.2.2 ∧ fresh b10 q.2.2) (fun q => TN.length - q.1) (0, (.slice x1 x0.base.length y1, .slice x2 x0.reads.length y2, .slice x3 x0.writes.length y3, .slice x4 x0.cells.length y4), Mr) ?_ ?_ (by kernel_rfl) ?_
                  · exact ⟨Nat.zero_le _, Gr.refl hmr, hxr, f20, f18, f12, f10⟩
                  · simp only [push_cast, seval, reduceCtorEq, hb18, hb12, hb20]
                    try exact subH_self _
                  · rintro ⟨t, ⟨z1, z2, z3, z4⟩, Mt⟩ ⟨htl, hgt, hvt, f20, f18, f12, f10⟩
                    dsimp only at htl hgt hvt f20 f18 f12 f10 ⊢
                    have hgtm := hgt.marks
                    by_cases hct : t < TN.length
                    · obtain ⟨i, hti⟩ : ∃ i, TN[t]? = some i := ⟨TN[t], List.getElem?_eq_getElem hct⟩
                      have hil : i < ks.length := hks ▸ lastI_lt (hTp.mem_iff.1 (List.mem_of_getElem? hti))
                      obtain ⟨K, hKj⟩ : ∃ K, ks[i]? = some K := ⟨ks[i], List.getElem?_eq_getElem hil⟩
                      obtain ⟨r, hr1, hr2, hr3⟩ := keyRw_at (hks ▸ hKj)
                      have hmK : mayKy K := hr2 ▸ keyA_may _ _
                      rcases hkat with hl0 | ⟨bk, fk, dk, kdk, ck2, hpk, hfk, hkat⟩
                      · rw [hl0] at hKj; simp at hKj
                      rcases hlat with hl0 | ⟨br, fr, dr, kdr, cr2, hpr, hfr, hlat⟩
                      · rw [hl0] at hr1; simp at hr1
                      rcases htat with hl0 | ⟨bt, ft, dt, kdt, ct2, hpt, hft, htat⟩
                      · rw [List.map_eq_nil_iff.1 hl0] at hti; simp at hti
                      obtain ⟨a1, a2⟩ := hkat i K hKj
                      obtain ⟨a3, a4⟩ := hlat i r hr1
                      obtain ⟨a5, a6⟩ := htat t (i : Int) (by rw [List.getElem?_map, hti]; rfl)
                      rw [Nat.mul_one] at a5 a6
                      rw [show intC (i : Int) = [.int .i64 i] from rfl] at a6
                      have hrl : i < l.length := (List.getElem?_eq_some_iff.1 hr1).1
                      have hek := hgt.find hfk
                      have her := hgt.find hfr
                      have het := hgt.find hft
                      have d20 := (fresh_findS f20 hek).2
                      have d18 := (fresh_findS f18 hek).2
                      have d12 := (fresh_findS f12 hek).2
                      have d10 := (fresh_findS f10 hek).2
                      have e20 := (fresh_findS f20 her).2
                      have e18 := (fresh_findS f18 her).2
                      have e12 := (fresh_findS f12 her).2
                      have e10 := (fresh_findS f10 her).2
                      have g20 := (fresh_findS f20 het).2
                      have g18 := (fresh_findS f18 het).2
                      have g12 := (fresh_findS f12 het).2
                      have g10 := (fresh_findS f10 het).2
                      have i0 : (t : Int) < ((lastV ks ks.length).length : Int) := by omega
                      have i01 : t < (lastV ks ks.length).length := by omega
                      have i1 : (i : Int) < (ks.length : Int) := by omega
                      have i2 : (i : Int) < (l.length : Int) := by omega
                      have hft0 : (runC x0 ((TN.map (atC l)).take t)).Fit := (runC_few ((TN.map (atC l)).take t) hfw0).fit (by rw [List.length_take]; omega)
                      have hst1 : runC x0 ((TN.map (atC l)).take (t + 1)) = (putV (runC x0 ((TN.map (atC l)).take t)) (cellR K r.c r.d)).1 := by
                        rw [List.take_add_one, List.getElem?_map, hti, Option.map_some, Option.toList_some, runC_snoc, atC_some hr1, hr2]; rfl
                      have er : Value.agg r.cells.toArray = r.v := rfl
                      simp only [push_cast, seval, reduceCtorEq, hct, hil, i0, i01, i1, i2, hrl, hb18, hb12, hb20, hpk, hpr, hpt, a1, a2, a3, a4, a5, a6, hek, her, het, d20, d18, d12, d10, e20, e18, e12, e10, g20, g18, g12, g10, er]
                      refine useL [_, _, _, _] (lawput_R (r := r) hvt hft0 hmK (il r (List.mem_of_getElem? hr1))) (ViR.rd _) hgtm ⟨f20, f18, f12, f10, trivial⟩ fun w M7 hg7 hL7 hv7 => ?_
                      rw [← hst1] at hv7
                      obtain ⟨p, k, p1, k1, p2, k2, p3, k3, rfl⟩ := hv7.e4
                      simp only [push_cast, seval, reduceCtorEq, hct, hb18, hb12, hb20, wrap_i64' (show -9223372036854775808 ≤ (t : Int) + 1 ∧ (t : Int) + 1 ≤ 9223372036854775807 by omega)]
                      exact ⟨subH_gr (N := []) trivial hg7, (t + 1, (_, _, _, _), M7), ⟨hct, hgt.trans hg7, hv7, hL7.1, hL7.2.1, hL7.2.2.1, hL7.2.2.2.1⟩, by dsimp only; omega, rfl, ⟨rfl, subH_self _⟩, rfl⟩
                    · obtain rfl : t = TN.length := by omega
                      have i1 : ¬ (TN.length : Int) < ((lastV ks ks.length).length : Int) := by omega
                      rw [List.take_of_length_le (by rw [List.length_map]; exact Nat.le_refl _), hA1] at hvt
                      simp only [push_cast, seval, reduceCtorEq, hct, i1, hb18, hb12, hb20]
                      have hvr := hvr.ext hgt.ext
                      have tY : (runC x0 (cellsW l)).Fit := (runC_few (cellsW l) hfw0).fit (by omega)
                      have hY2 : (runC x0 (cellsW l)).cells.length = (lastV ks ks.length).length := hA2.trans hlw
                      have hY3 : ((runC x0 (cellsW l)).cells.length : Int) = ((lastV ks ks.length).length : Int) := by rw [hY2]
                      have hL : freshN [⟨b20, 0, .cel 33, [z1, z2, z3, z4]⟩, ⟨b18, 0, .cel 33, [.slice pu1 (runC x0 (cellsW l)).base.length ku1, .slice pu2 (runC x0 (cellsW l)).reads.length ku2, .slice pu3 (runC x0 (cellsW l)).writes.length ku3, .slice pu4 (runC x0 (cellsW l)).cells.length ku4]⟩, ⟨b12, 0, .cel 33, [.slice x1 x0.base.length y1, .slice x2 x0.reads.length y2, .slice x3 x0.writes.length y3, .slice x4 x0.cells.length y4]⟩, ⟨b10, 0, .cel 30, [.slice pr 0 kr, .slice pw (setK ks).length kw]⟩] Mt := ⟨f20, f18, f12, f10, trivial⟩
                      refine regO gB2_ok ?_
                      simp only [push_cast, seval, reduceCtorEq, hb18, hb12, hb20]
                      refine useP [_, _, _, _] (r11same_R hvr hvt tY tY) hL ?_
                      rw [decide_eq_true rfl]
                      simp only [push_cast, seval, reduceCtorEq, hb18, hb12, hb20, hY2, hY3, beq_self_eq_true]
                      rw [hY2] at hvr
                      refine useP [_, _, _, _] (by have := vright_R hvr tY; rw [pB_iff.2 hA3] at this; exact this) hL ?_
                      simp only [push_cast, seval, reduceCtorEq, hb18, hb12, hb20]
end Go.Proofs.YtincedmdkdjakaaGreat
