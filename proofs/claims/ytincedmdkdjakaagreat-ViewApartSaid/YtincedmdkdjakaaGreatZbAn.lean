/- Texts of this claim, merged by program: Ul Um Un Uo. -/
import Derived.Test.YtincedmdkdjakaaGreatZbAm
set_option linter.unusedSimpArgs false
set_option linter.unusedVariables false
namespace Go.Ev
theorem find_left {b : Nat} {e : Ent} {A B : Hp} (h : findE A b = some e) : findE (A ++ B) b = some e := by rw [findE_app, h]
theorem CallsV.sub0 {P : Program} {g : FuncId} {args : List Value} {H : Hp} {v : Value} (hc : CallsV P g args [] (Ret0 v)) (hm : marksOf H = []) : CallsV P g args H (Ret0 v) := by
  refine ⟨hc.1, fun w0 mu w h => (hc.2 w0 mu w (h.sub (H' := []) trivial)).mono ?_⟩
  rintro e w' ⟨v, H'', h1, h2, h3, h4⟩
  exact ⟨v, H'', h1, h2, h3, h4.trans hm.symm⟩
theorem rightKs_iff (l : List Ky) : rightKs l ↔ l.length ≤ 200 ∧ (l.any fun k => !k.may) = false ∧ srtY l = true ∧ adjY l := by
  have hm : (l.any fun k => !k.may) = false ↔ ∀ k ∈ l, mayKy k := by
    rw [List.any_eq_false]
    exact ⟨fun h k hk => (Ky.may_iff k).1 (by have := h k hk; cases hm : k.may <;> simp_all), fun h k hk => by rw [(Ky.may_iff k).2 (h k hk)]; decide⟩
  constructor
  · rintro ⟨h1, h2, h3⟩
    refine ⟨h3, hm.2 h1, pB_t fun i x y hx hy h => ?_, fun i x y hx hy h => ?_⟩
    · exact Ky.lt_asymm h (pw_at h2 (Nat.lt_succ_self i) hx hy)
    · exact Ky.lt_ne (pw_at h2 (Nat.lt_succ_self i) hx hy) h
  · rintro ⟨h1, h2, h3, h4⟩
    refine ⟨hm.1 h2, pw_adj (R := Ky.lt) (fun _ _ _ => Ky.lt_trans) fun i x y hx hy => ?_, h1⟩
    rcases Ky.tri x y with h | h | h
    · exact h
    · exact absurd h (h4 i x y hx hy)
    · exact absurd h (pB_iff.1 h3 i x y hx hy)
end Go.Ev
namespace Go.Proofs.YtincedmdkdjakaaGreat
open Go Go.Ev Go.Proofs
set_option maxRecDepth 100000
set_option maxHeartbeats 4000000
theorem valuesYs_ok (p : Option Addr) (n c : Nat) : CallsV Tryz.prog 127 [.slice p n c] [] (fun r N => ∃ b1, r = .func (.func 143) #[] #[.pointer (some ⟨b1, 0, none⟩)] ∧ N = [⟨b1, 0, .cel 120, [.slice p n c]⟩]) := by
  refine callsO (noG_ok _) Tryz.mix Tryz.pl127 Tryz.func127 rfl Tryz.ntmps127 Tryz.results127 rfl (by first | rfl | assumption) (Nat.le_of_ble_eq_true rfl) (by kernel_rfl) ?_
  simp only [push_cast, seval, reduceCtorEq]
  intro b1
  exact ⟨_, List.Sublist.refl _, b1, rfl, rfl⟩
theorem ysIter {Hc : Hp} {ss : List Value} {b1 b0 c : Nat} {k1 k2 : Kind} (hn : ss.length < 1099511627776) (hmc : marksOf Hc = []) (h1 : findE Hc b1 = some ⟨b1, 0, k1, [.slice (some ⟨b0, 0, none⟩) ss.length c]⟩) (h2 : findE Hc b0 = some ⟨b0, 0, k2, ss⟩) :
    IterV Tryz.prog 143 [.pointer (some ⟨b1, 0, none⟩)] Hc (ss.map fun s => [s]) := by
  refine ⟨enterO Tryz.func143 rfl rfl, fun X Ho I St l x0 hro hmk h0 hy => ?_⟩
  have hmarks : ∀ x, marksOf (Hc ++ Ho x) = [] := fun x => by rw [marks_append, hmc, hmk]; rfl
  have hm0 := hmarks x0
  have h1' := fun z => find_left (B := Ho z) h1
  have h2' := fun z => find_left (B := Ho z) h2
  have yl : ∀ (j : Nat) (z : X) (v : Value) (K' : Value → Hp → Prop) (hj : j < ss.length), v = ss[j] → I j z → (∀ x', I (j + 1) x' → K' (.bool true) (Hc ++ Ho x')) → (∀ x', St x' → K' (.bool false) (Hc ++ Ho x')) → YieldV Tryz.prog l [v] (Hc ++ Ho z) K' := fun j z v K' hj hv hi ht hf => by
    subst hv
    refine (hy j z [ss[j]] (by rw [List.getElem?_map, List.getElem?_eq_getElem hj]; rfl) hi).frame ?_ ?_
    · rintro v H' (⟨rfl, x', _, rfl⟩ | ⟨rfl, x', _, rfl⟩) <;> exact hro z x'
    · rintro v H' (⟨rfl, x', h, rfl⟩ | ⟨rfl, x', h, rfl⟩)
      · exact ht x' h
      · exact hf x' h
  obtain ⟨vs, hvs⟩ : ∃ vs, vs = ss.map fun s => [s] := ⟨_, rfl⟩
  have hvl : vs.length = ss.length := by rw [hvs]; simp
  have yf : ∀ (x' : X), (I vs.length x' ∨ St x') → ∃ H'_1, List.Sublist H'_1 (dropM (Hc ++ Ho x')) ∧ ∃ z, (I vs.length z ∨ St z) ∧ H'_1 = Ho z := fun x' hst => by
    refine ⟨Ho x', ?_, x', hst, rfl⟩
    rw [dropM_eq (hmarks x')]
    exact List.sublist_append_right _ _
  rw [← hvs]
  refine callsO (noG_ok _) Tryz.mix Tryz.pl143 Tryz.func143 rfl Tryz.ntmps143 Tryz.results143 rfl (by first | rfl | assumption) (Nat.le_of_ble_eq_true rfl) (by kernel_rfl) ?_
  simp only [push_cast, seval, reduceCtorEq, h1', h2']
  refine loopO (noG_ok _) (pl := Tryz.pl143) Tryz.mix (X := Nat × X)
    (fun s => ([(0, .func (.yield l) #[] #[]), (5, .slice (some ⟨b0, 0, none⟩) ss.length c), (6, .int .i64 ss.length), (7, .int .i64 s.1)], Hc ++ Ho s.2))
    (fun s => s.1 ≤ ss.length ∧ I s.1 s.2) (fun s => ss.length - s.1) (0, x0) ?_ ?_ (by kernel_rfl) ?_
  · exact ⟨Nat.zero_le _, h0⟩
  · simp only [push_cast, seval, reduceCtorEq, hm0, subH_self]
  · rintro ⟨i, z⟩ ⟨hi, hI⟩
    dsimp only at hi hI ⊢
    rcases Nat.lt_or_ge i ss.length with hlt | hge
    · have i1 : (i : Int) < (ss.length : Int) := by omega
      have i2 : i + 1 ≤ ss.length := hlt
      have hat : List.take 1 (List.drop i ss) = [ss[i]] := by
        rw [List.drop_eq_getElem_cons hlt, List.take_succ_cons, List.take_zero]
      simp only [push_cast, seval, reduceCtorEq, h1', h2', i1, i2, hlt, hat]
      refine yl i z _ _ hlt rfl hI (fun x' hx' => ?_) (fun x' hx' => ?_)
      · simp only [push_cast, seval, reduceCtorEq, wrap_i64' (show -9223372036854775808 ≤ (i : Int) + 1 ∧ (i : Int) + 1 ≤ 9223372036854775807 by omega)]
        exact ⟨(i + 1, x'), ⟨hlt, hx'⟩, by dsimp only; omega, ⟨rfl, subH_self _, by simp only [hmarks]⟩⟩
      · simp only [push_cast, seval, reduceCtorEq]
        exact yf x' (.inr hx')
    · obtain rfl : i = ss.length := by omega
      simp only [push_cast, seval, reduceCtorEq, h1', h2', Nat.lt_irrefl]
      exact yf z (.inl (by rw [hvl]; exact hI))
theorem sets_ok (p1 : Option Addr) (n1 c1 : Nat) (p2 : Option Addr) (n2 c2 : Nat) : CallsV Tryz.prog 102 [.agg #[.slice p1 n1 c1, .slice p2 n2 c2]] [] (fun r N => ∃ b1 b0 k1 k2, ¬ b1 = b0 ∧ r = .func (.func 143) #[] #[.pointer (some ⟨b1, 0, none⟩)] ∧ N = [⟨b1, 0, .cel k1, [.slice (some ⟨b0, 0, none⟩) 2 2]⟩, ⟨b0, 0, .vec k2 1 2, [.slice p1 n1 c1, .slice p2 n2 c2]⟩]) := by
  refine callsO (noG_ok _) Tryz.mix Tryz.pl102 Tryz.func102 rfl Tryz.ntmps102 Tryz.results102 rfl (by first | rfl | assumption) (Nat.le_of_ble_eq_true rfl) (by kernel_rfl) ?_
  simp only [push_cast, seval, reduceCtorEq]
  intro b2 b0 hb0
  refine CallsV.use (valuesYs_ok _ _ _) (H := [_, _]) trivial ?_
  rintro r N ⟨b1, rfl, rfl⟩
  refine ⟨⟨trivial, trivial⟩, rfl, fun hf => ?_⟩
  simp only [push_cast, seval, reduceCtorEq] at hf
  simp only [push_cast, seval, reduceCtorEq, hb0, hf]
  exact ⟨[_, _], ((List.nil_sublist _).cons_cons _).cons_cons _, b1, b0, _, _, hf.1, rfl, rfl⟩
theorem cloneY_W {M : Hp} {l : List Ky} {v : Value} (hv : LiR Ky.cells 25 M l v) (hn : l.length ≤ 1000000000) : CallsW Tryz.prog 87 [v] M (fun v N _ => OutG 45 25 (l.flatMap Ky.cells) l.length v N) :=
  CallsV.toW (fun _ hr he => cloneY_ok (hv.congr he.symm) hr.marks hn) fun _ _ h => h.wr
theorem cloneE_W {M : Hp} {l : List Ce} {v : Value} (hv : LiR Ce.cells 35 M l v) (hn : l.length ≤ 1000000000) : CallsW Tryz.prog 88 [v] M (fun v N _ => OutG 74 35 (l.flatMap Ce.cells) l.length v N) :=
  CallsV.toW (fun _ hr he => cloneE_ok (hv.congr he.symm) hr.marks hn) fun _ _ h => h.wr
theorem anyOdd_ok {M0 : Hp} {l : List Ky} {v : Value} (hr : roM M0) (hn : l.length ≤ 1000000000000) (hv : LiR Ky.cells 25 M0 l v) : CallsV Tryz.prog 103 [v, .func (.func 104) #[] #[]] M0 (Ret0 (.bool (l.any fun k => !k.may))) :=
  containsFY_ok hr hn hv (g := 104) (caps := []) fun x _ => CallsV.sub0 (oddG_ok x) hr.marks
theorem aRight_ok {M : Hp} {R W' : List Ky} {v : Value} (hr : roM M) (hv : SeR R W' v M) (hn : R.length ≤ 1000000000) (hn2 : W'.length ≤ 1000000000) : CallsV Tryz.prog 68 [v] M (Ret0 (.bool (pB (rightKs R) && pB (rightKs W')))) := by
  have hm := hr.marks
  obtain ⟨vr, vw, rfl, h1, h2⟩ := hv
  have h1' := h1
  have h2' := h2
  obtain ⟨p1, c1, rfl⟩ := LiR.slice h1'
  obtain ⟨p2, c2, rfl⟩ := LiR.slice h2'
  refine callsO gU2_ok Tryz.mix (fun i => if i = 1 then [(0, 9)] else Tryz.pl68 i) Tryz.func68 rfl Tryz.ntmps68 Tryz.results68 rfl (by first | rfl | assumption) (Nat.le_of_ble_eq_true rfl) (by kernel_rfl) ?_
  simp only [push_cast, seval, reduceCtorEq]
  intro b1 hb1 b2 hb2
  refine regO gU2_ok ?_
  simp only [push_cast, seval, reduceCtorEq, hb2]
  refine CallsV.use (sets_ok p1 R.length c1 p2 W'.length c2) trivial ?_
  rintro r N ⟨b3, b0, k1, k2, hne, rfl, rfl⟩
  refine ⟨⟨trivial, trivial, trivial⟩, rfl, fun hf => ?_⟩
  simp only [push_cast, seval, reduceCtorEq] at hf
  simp only [push_cast, seval, reduceCtorEq, hb2, hf]
  have hm3 : marksOf M = [] := hm
  have hmr : ∀ r : Bool, marksOf (⟨b2, 0, .cel 4, [.bool r]⟩ :: M) = [] := fun r => hm
  refine rangeO gU2_ok (pl := fun i => if i = 1 then [(0, 9)] else Tryz.pl68 i) Tryz.mix (Hc := [⟨b3, 0, .cel k1, [.slice (some ⟨b0, 0, none⟩) 2 2]⟩, ⟨b0, 0, .vec k2 1 2, [.slice p1 R.length c1, .slice p2 W'.length c2]⟩]) (Hm := [])
    (ysIter (ss := [.slice p1 R.length c1, .slice p2 W'.length c2]) (b1 := b3) (b0 := b0) (c := 2) (k1 := .cel k1) (k2 := .vec k2 1 2) (by simp) rfl (by simp [findE]) (by simp [findE, Ne.symm hne])) rfl
    (X := Bool) (fun r => ⟨b2, 0, .cel 4, [.bool r]⟩ :: M)
    (fun k r => r = false ∧ (0 < k → rightKs R) ∧ (1 < k → rightKs W')) (fun c r => c = .ret ∧ r = false ∧ (pB (rightKs R) && pB (rightKs W')) = false) false
    ?_ ?_ ?_ rfl (by simp) hmr (fun x y e he => ?_) ?_ (by kernel_rfl) (by kernel_rfl) (fun c x h => ?_) ?_ ?_ ?_
  · exact ⟨rfl, fun h => absurd h (by decide), fun h => absurd h (by decide)⟩
  · simp only [push_cast, seval, reduceCtorEq, hf, hb2, hne]
    exact subH_drop hb1 (subH_self M)
  · exact hm
  · rcases List.mem_cons.1 he with rfl | he
    · exact .inl trivial
    · exact .inr (List.mem_cons_of_mem _ he)
  · intro args ha
    obtain ⟨z, _, rfl⟩ := List.mem_map.1 ha
    rfl
  · rw [h.1]; rfl
  · rintro lo k r args hk ⟨rfl, hk1, hk2⟩
    obtain ⟨l, p, c, rfl, hl, hln, hyes, hno⟩ : ∃ (l : List Ky) (p : Option Addr) (c : Nat), args = [.slice p l.length c] ∧ LiR Ky.cells 25 M l (.slice p l.length c) ∧ l.length ≤ 1000000000 ∧
        (rightKs l → (0 < k + 1 → rightKs R) ∧ (1 < k + 1 → rightKs W')) ∧ (¬ rightKs l → (pB (rightKs R) && pB (rightKs W')) = false) := by
      match k, hk with
      | 0, hk =>
        simp only [List.map_cons, List.getElem?_cons_zero, Option.some.injEq] at hk
        exact ⟨R, p1, c1, hk.symm, h1, hn, fun h => ⟨fun _ => h, fun h => absurd h (by decide)⟩, fun h => by rw [pB_f h]; rfl⟩
      | 1, hk =>
        simp only [List.map_cons, List.getElem?_cons_succ, List.getElem?_cons_zero, Option.some.injEq] at hk
        exact ⟨W', p2, c2, hk.symm, h2, hn2, fun h => ⟨fun _ => hk1 (by decide), fun _ => h⟩, fun h => by rw [pB_f h, Bool.and_false]⟩
      | k + 2, hk => simp at hk
    have hr1 := rightKs_iff l
    have hno' : ¬ rightKs l → ∀ H, subH H (⟨b2, 0, .cel 4, [.bool false]⟩ :: M) → ∀ T, roundK (fun r => ⟨b2, 0, .cel 4, [.bool r]⟩ :: M) (fun k r => r = false ∧ (0 < k → rightKs R) ∧ (1 < k → rightKs W')) (fun c r => c = .ret ∧ r = false ∧ (pB (rightKs R) && pB (rightKs W')) = false) k .ret T H := fun h H hs T => ⟨false, ⟨rfl, rfl, hno h⟩, hs⟩
    have hyes' : rightKs l → ∀ H, subH H (⟨b2, 0, .cel 4, [.bool false]⟩ :: M) → ∀ T, roundK (fun r => ⟨b2, 0, .cel 4, [.bool r]⟩ :: M) (fun k r => r = false ∧ (0 < k → rightKs R) ∧ (1 < k → rightKs W')) (fun c r => c = .ret ∧ r = false ∧ (pB (rightKs R) && pB (rightKs W')) = false) k .normal T H := fun h H hs T => ⟨false, ⟨rfl, hyes h⟩, hs⟩
    generalize (roundK _ _ _ k : Exit → Tm → Hp → Prop) = RK at hno' hyes' ⊢
    have hfb : fresh b2 M := hb2.2.2
    have hLM : freshN [⟨b2, 0, .cel 4, [.bool false]⟩] M := ⟨hfb, trivial⟩
    have hrs : roSub M (⟨b2, 0, .cel 4, [.bool false]⟩ :: M) := roSub_of fun e he => .inr (List.mem_cons_of_mem _ he)
    by_cases q1 : 200 < l.length
    · have i1 : (200 : Int) < (l.length : Int) := by omega
      simp only [push_cast, seval, reduceCtorEq, i1, q1, hm, hrs]
      exact hno' (fun h => by have := (hr1.1 h).1; omega) _ (subH_self _) _
    have i1 : ¬ (200 : Int) < (l.length : Int) := by omega
    simp only [push_cast, seval, reduceCtorEq, i1, q1, hm, hrs]
    refine useP [_] (fun M0 hr0 he0 => anyOdd_ok hr0 (by omega) (hl.congr he0.symm)) hLM ?_
    cases q2 : (l.any fun k => !k.may)
    case true =>
      simp only [push_cast, seval, reduceCtorEq, q2, i1, q1]
      exact hno' (fun h => by have := (hr1.1 h).2.1; rw [q2] at this; cases this) _ (subH_self _) _
    simp only [push_cast, seval, reduceCtorEq, q2, i1, q1]
    refine useP [_] (fun M0 hr0 he0 => isSortedY_ok hr0.marks (by omega) (hl.congr he0.symm)) hLM ?_
    cases q3 : srtY l
    case false =>
      simp only [push_cast, seval, reduceCtorEq, q3]
      exact hno' (fun h => by have := (hr1.1 h).2.2.1; rw [q3] at this; cases this) _ (subH_self _) _
    simp only [push_cast, seval, reduceCtorEq, q3]
    refine useN [_] (cloneY_W hl hln) (fun _ _ _ _ _ h => h) hm hLM fun u N1 M1 hg hf1 hL1 hw1 hmN hq => ?_
    have hsl := hq.slice
    obtain ⟨pu, ku, rfl⟩ := hsl
    simp only [push_cast, seval, reduceCtorEq, q3]
    refine CallsV.useMs (Hw := N1) (Hf := []) (by rw [List.append_nil]; exact compactY_ok hq hln) (fun e he => ?_) trivial ?_
    · rcases hq with ⟨-, -, -, rfl⟩ | ⟨b, c', -, -, -, rfl⟩
      · cases he
      · rw [List.mem_singleton.1 he]; rfl
    rintro u2 N2 ⟨⟨p', k', m, rfl, hadj⟩, rfl⟩
    refine ⟨trivial, rfl, fun _ => ?_⟩
    have hsM : subH ([] ++ ([⟨b2, 0, .cel 4, [.bool false]⟩] ++ M1)) (⟨b2, 0, .cel 4, [.bool false]⟩ :: M) := subH_pre (subH_gr (N := []) trivial hg) [⟨b2, 0, .cel 4, [.bool false]⟩]
    by_cases q4 : m = l.length
    · have i4 : ((l.length : Int) != (l.length : Int)) = false := bne_self_eq_false _
      simp only [push_cast, seval, reduceCtorEq, q3, q4, i4]
      exact hyes' (hr1.2 ⟨by omega, q2, q3, hadj.1 q4⟩) _ hsM _
    · have i4 : ((m : Int) != (l.length : Int)) = true := by rw [bne_iff_ne]; omega
      simp only [push_cast, seval, reduceCtorEq, q3, i4]
      exact hno' (fun h => q4 (hadj.2 (hr1.1 h).2.2.2)) _ hsM _
  · rintro D r hD ⟨rfl, hk1, hk2⟩
    have e : (pB (rightKs R) && pB (rightKs W')) = true := by rw [pB_t (hk1 (by simp)), pB_t (hk2 (by simp))]; rfl
    rw [e]
    have hD2 : ¬ b2 = D := Ne.symm hD.1
    simp only [push_cast, seval, reduceCtorEq, hD2, hm]
  · rintro D c r hD ⟨rfl, rfl, e⟩
    rw [e]
    have hD2 : ¬ b2 = D := Ne.symm hD.1
    simp only [push_cast, seval, reduceCtorEq, hD2, hm]
theorem aRight_R {M : Hp} {R W' : List Ky} {v : Value} (hv : SeR R W' v M) (hn : R.length ≤ 1000000000) (hn2 : W'.length ≤ 1000000000) : ∀ M0, roM M0 → cellsAt M0 = cellsAt M → CallsV Tryz.prog 68 [v] M0 (Ret0 (.bool (pB (rightKs R) && pB (rightKs W')))) :=
  fun _ hr he => aRight_ok hr (SeR.rd _ _ _ _ _ he.symm hv) hn hn2
end Go.Proofs.YtincedmdkdjakaaGreat
set_option linter.unusedSimpArgs false
set_option linter.unusedVariables false
namespace Go.Ev
theorem Ce.cells_inj {x y : Ce} (h : x.cells = y.cells) : x = y := by
  have h1 := congrArg (List.take 25) h
  rw [x.take25, y.take25] at h1
  have h2 := congrArg (fun l => List.take 4 (List.drop 25 l)) h
  have h3 := congrArg (fun l => List.take 1 (List.drop 29 l)) h
  have h4 := congrArg (fun l => List.take 1 (List.drop 30 l)) h
  have h5 := congrArg (fun l => List.take 4 (List.drop 31 l)) h
  rw [x.bal25, y.bal25] at h2
  rw [x.non29, y.non29] at h3
  rw [x.cod30, y.cod30] at h4
  rw [x.val31, y.val31] at h5
  simp only [List.cons.injEq, Value.int.injEq, Value.string.injEq, true_and, and_true] at h3 h4
  exact Ce.ext (Ky.cells_inj h1) (W.cells_inj h2) h3 h4 (W.cells_inj h5)
theorem Ce.v_inj {x y : Ce} (h : x.v = y.v) : x = y := by
  unfold Ce.v at h
  simp only [Value.agg.injEq] at h
  exact Ce.cells_inj (by simpa using congrArg Array.toList h)
noncomputable def ceOf (v : Value) : Option Ce := @dite (Option Ce) (∃ x : Ce, x.v = v) (Classical.propDecidable _) (fun h => some (Classical.choose h)) (fun _ => none)
theorem ceOf_v (x : Ce) : ceOf x.v = some x := by
  unfold ceOf
  rw [dif_pos ⟨x, rfl⟩]
  exact congrArg some (Ce.v_inj (Classical.choose_spec (⟨x, rfl⟩ : ∃ y : Ce, y.v = x.v)))
theorem ceOf_some {v : Value} {x : Ce} (h : ceOf v = some x) : v = x.v := by
  unfold ceOf at h
  split at h
  · rename_i hx
    rw [← Option.some.inj h]
    exact (Classical.choose_spec hx).symm
  · cases h
noncomputable def mayCG : List Value → Option Value
  | [x] => (ceOf x).bind fun a => some (.bool (mayCB a))
  | _ => none
noncomputable def ordCG : List Value → Option Value
  | [x, y] => (ceOf x).bind fun a => (ceOf y).bind fun b => some (.int .i64 (ordY a.key b.key))
  | _ => none
attribute [push_cast] mayCG ordCG ceOf_v
theorem mayB_w (R W' : List Ky) (k : Ky) : mayB R W' k true = decide (k ∈ W') := by unfold mayB; simp
theorem mayB_r (v : Vi) (k : Ky) : mayB v.reads v.writes k false = pB (v.rd k) := by
  unfold mayB Vi.rd
  rw [Bool.not_false, Bool.true_and, Bool.eq_iff_iff, pB_iff, Bool.or_eq_true, decide_eq_true_eq, decide_eq_true_eq]
structure Vi.Fit (x : Vi) : Prop where
  b : x.base.length ≤ 1000000000
  sl : ∀ y ∈ x.base, y.slots.length ≤ 2000
  r : x.reads.length ≤ 1000000000
  w : x.writes.length ≤ 1000000000
  c : x.cells.length ≤ 1000000000
end Go.Ev
namespace Go.Proofs.YtincedmdkdjakaaGreat
open Go Go.Ev Go.Proofs
set_option maxRecDepth 100000
set_option maxHeartbeats 4000000
theorem vmayG_ok (args : List Value) (v : Value) (h : mayCG args = some v) : CallsV Tryz.prog 65 args [] (Ret0 v) := by
  unfold mayCG at h
  split at h
  case h_2 => cases h
  rename_i x
  cases hx : ceOf x with
  | none => simp [hx] at h
  | some a => simp only [hx, Option.bind_some, Option.some.injEq] at h; rw [ceOf_some hx, ← h]; exact vmay_ok a
theorem rmayG_ok (args : List Value) (v : Value) (h : mayCG args = some v) : CallsV Tryz.prog 69 args [] (Ret0 v) := by
  unfold mayCG at h
  split at h
  case h_2 => cases h
  rename_i x
  cases hx : ceOf x with
  | none => simp [hx] at h
  | some a => simp only [hx, Option.bind_some, Option.some.injEq] at h; rw [ceOf_some hx, ← h]; exact rcmay_ok a
theorem vorder_ok (x y : Ce) : CallsV Tryz.prog 67 [x.v, y.v] [] (Ret0 (.int .i64 (ordY x.key y.key))) := by
  refine callsO gU2_ok Tryz.mix (fun i => if i = 1 then [(0, 9)] else Tryz.pl67 i) Tryz.func67 rfl Tryz.ntmps67 Tryz.results67 rfl (by first | rfl | assumption) (Nat.le_of_ble_eq_true rfl) (by kernel_rfl) ?_
  simp only [push_cast, seval, reduceCtorEq]
  intro b2 b3 hb3
  refine regO gU2_ok ?_
  simp only [push_cast, seval, reduceCtorEq, hb3]
theorem vorderG_ok (args : List Value) (v : Value) (h : ordCG args = some v) : CallsV Tryz.prog 67 args [] (Ret0 v) := by
  unfold ordCG at h
  split at h
  case h_2 => cases h
  rename_i x y
  cases hx : ceOf x with
  | none => simp [hx] at h
  | some a =>
    cases hy : ceOf y with
    | none => simp [hx, hy] at h
    | some b => simp only [hx, hy, Option.bind_some, Option.some.injEq] at h; rw [ceOf_some hx, ceOf_some hy, ← h]; exact vorder_ok a b
noncomputable def gU3 : Gam := (addG 67 ordCG (addG 69 mayCG (addG 65 mayCG gU2)))
attribute [push_cast] gU3
theorem gU3_ok : GamOk Tryz.prog gU3 := (addG_ok vorderG_ok (addG_ok rmayG_ok (addG_ok vmayG_ok gU2_ok)))
def plVR : Plans := fun i => if i = 4 then [] else Tryz.pl29 i
def plVR2 : Plans := fun i => if i = 4 then [] else Tryz.pl30 i
attribute [push_cast] plVR plVR2
theorem vright_ok {M : Hp} {x : Vi} {v : Value} (hv : ViR x v M) (hm : marksOf M = []) (hb : x.Fit) : CallsV Tryz.prog 29 [v] M (Ret0 (.bool (pB (RiV x)))) := by
  obtain ⟨n1, n2, n3, n4, n5⟩ := hb
  obtain ⟨vb, vr, vw, vc, rfl, h1, h2, h3, h4⟩ := hv
  have hse : SeR x.reads x.writes (.agg #[vr, vw]) M := ⟨vr, vw, rfl, h2, h3⟩
  obtain ⟨pb, kb, rfl⟩ := h1.slice
  obtain ⟨pr, kr, rfl⟩ := LiR.slice h2
  obtain ⟨pw, kw, rfl⟩ := LiR.slice h3
  obtain ⟨pc, kc, rfl, hla⟩ := LiR.openE h4
  refine callsO gU3_ok Tryz.mix plVR Tryz.func29 rfl Tryz.ntmps29 Tryz.results29 rfl (by first | rfl | assumption) (Nat.le_of_ble_eq_true rfl) (by kernel_rfl) ?_
  simp only [push_cast, seval, reduceCtorEq]
  intro b1 hb1
  refine loopO gU3_ok (pl := plVR) Tryz.mix (X := Nat)
    (fun i => ([(1, .pointer (some ⟨b1, 0, none⟩)), (6, .slice pc x.cells.length kc), (7, .int .i64 x.cells.length), (8, .int .i64 i)], ⟨b1, 0, .cel 33, [.slice pb x.base.length kb, .slice pr x.reads.length kr, .slice pw x.writes.length kw, .slice pc x.cells.length kc]⟩ :: M))
    (fun i => i ≤ x.cells.length ∧ ∀ j, j < i → okC x j) (fun i => x.cells.length - i) 0 ?_ ?_ (by kernel_rfl) ?_
  · exact ⟨Nat.zero_le _, fun i h => by omega⟩
  · simp only [push_cast, seval, reduceCtorEq, hm]
  · rintro i ⟨hi, ho⟩
    dsimp only at hi ho ⊢
    rcases Nat.lt_or_ge i x.cells.length with hlt | hge
    · obtain ⟨c, hc⟩ : ∃ c, x.cells[i]? = some c := ⟨x.cells[i], List.getElem?_eq_getElem hlt⟩
      rcases hla with hl0 | ⟨b, f', d, kd, cs, rfl, hfe, hat⟩
      · rw [hl0] at hlt; simp at hlt
      obtain ⟨a1, a2⟩ := hat i c hc
      have i1 : (i : Int) < (x.cells.length : Int) := by omega
      have n3' := (fresh_findS hb1 hfe).2
      have step : okC x i → ∀ j, j < i + 1 → okC x j := fun h j hj => by
        rcases Nat.lt_or_ge j i with h5 | h5
        · exact ho j h5
        · obtain rfl : j = i := by omega
          exact h
      simp only [push_cast, seval, reduceCtorEq, i1, hlt, hfe, n3', a1, a2]
      intro b4 hb4
      have n4' := (fresh_findS hb4.2.2 hfe).2
      refine drawO gU3_ok Tryz.mix (Tryz.pl29 4) (by kernel_rfl) ?_
      obtain ⟨my, hmy⟩ : ∃ q, mayCB c = q := ⟨_, rfl⟩
      cases my
      · have e : pB (RiV x) = false := pB_f (okC_bad (i := i) fun h => by
          have := (h c hc).1
          unfold mayCB at hmy
          rw [pB_t this] at hmy; cases hmy)
        rw [e]
        simp only [push_cast, seval, reduceCtorEq, i1, hlt, hfe, n3', n4', a1, a2, hmy, hb4]
      have hmx : mayC c := pB_iff.1 hmy
      simp only [push_cast, seval, reduceCtorEq, i1, hlt, hfe, n3', n4', a1, a2, hmy, hb4]
      refine takeR [_, _] (amay_R hse (by omega) (by omega)) ⟨hb4.2.2, hb1, trivial⟩ ?_
      rw [mayB_w]
      by_cases hw : c.key ∈ x.writes
      case neg =>
        have e : pB (RiV x) = false := pB_f (okC_bad (i := i) fun h => hw (h c hc).2.1)
        rw [e]
        simp only [push_cast, seval, reduceCtorEq, i1, hlt, hfe, n3', n4', a1, a2, hmy, hb4, decide_eq_false hw]
      rcases Nat.eq_zero_or_pos i with rfl | hpos
      · simp only [push_cast, seval, reduceCtorEq, i1, hlt, hfe, n3', n4', a1, a2, hmy, hb4, decide_eq_true hw, Int.lt_irrefl, Nat.lt_irrefl, wrap_i64' (show -9223372036854775808 ≤ (0 : Int) + 1 ∧ (0 : Int) + 1 ≤ 9223372036854775807 by omega)]
        exact ⟨1, ⟨hlt, step fun y hy => by rw [hc] at hy; cases hy; exact ⟨hmx, hw, fun _ h => absurd h (Nat.lt_irrefl _)⟩⟩, by omega, by first | rfl | exact ⟨rfl, subH_cons hb4⟩ | exact subH_cons hb4⟩
      · obtain ⟨k, rfl⟩ : ∃ k, i = k + 1 := ⟨i - 1, by omega⟩
        obtain ⟨y, hy⟩ : ∃ y, x.cells[k]? = some y := ⟨x.cells[k]'(by omega), List.getElem?_eq_getElem (by omega)⟩
        obtain ⟨y1, y2⟩ := hat k y hy
        have p1 : (0 : Int) < (k : Int) + 1 := by omega
        have p2 : (k : Int) + 1 - 1 = (k : Int) := by omega
        have p3 : k < x.cells.length := by omega
        by_cases hco : y.key.lt c.key
        · have ec : ¬ (0 : Int) ≤ ordY y.key c.key := by have := ordY_neg.2 hco; omega
          simp only [push_cast, seval, reduceCtorEq, i1, hlt, hfe, n3', n4', a1, a2, hmy, hb4, decide_eq_true hw, p1, p2, p3, y1, y2, ec, wrap_i64' (show -9223372036854775808 ≤ (k : Int) ∧ (k : Int) ≤ 9223372036854775807 by omega), wrap_i64' (show -9223372036854775808 ≤ (k : Int) + 1 + 1 ∧ (k : Int) + 1 + 1 ≤ 9223372036854775807 by omega)]
          exact ⟨k + 2, ⟨hlt, step fun z hz => by rw [hc] at hz; cases hz; exact ⟨hmx, hw, fun u _ hu => by rw [Nat.add_sub_cancel, hy] at hu; cases hu; exact hco⟩⟩, by omega, by first | rfl | exact ⟨rfl, subH_cons hb4⟩ | exact subH_cons hb4⟩
        · have ec : (0 : Int) ≤ ordY y.key c.key := by have : ¬ ordY y.key c.key < 0 := fun h => hco (ordY_neg.1 h); omega
          have e : pB (RiV x) = false := pB_f (okC_bad (i := k + 1) fun h => hco ((h c hc).2.2 y (Nat.succ_pos _) (by rw [Nat.add_sub_cancel]; exact hy)))
          rw [e]
          simp only [push_cast, seval, reduceCtorEq, i1, hlt, hfe, n3', n4', a1, a2, hmy, hb4, decide_eq_true hw, p1, p2, p3, y1, y2, ec, wrap_i64' (show -9223372036854775808 ≤ (k : Int) ∧ (k : Int) ≤ 9223372036854775807 by omega)]
    · obtain rfl : i = x.cells.length := by omega
      have e : pB (RiV x) = (rightS x.base && (pB (rightKs x.reads) && pB (rightKs x.writes))) := by
        rw [Bool.eq_iff_iff, pB_iff, okC_end ho, Bool.and_eq_true, Bool.and_eq_true, rightS_iff, pB_iff, pB_iff]
      rw [e]
      simp only [push_cast, seval, reduceCtorEq, Nat.lt_irrefl, Int.lt_irrefl]
      refine useP [_] (fun M1 hr1 he1 => sright_ok (StR.rd _ _ _ _ he1.symm h1) hr1.marks (by omega)) ⟨hb1, trivial⟩ ?_
      cases hs : rightS x.base
      · simp only [push_cast, seval, reduceCtorEq, hs, Bool.false_and]
      simp only [push_cast, seval, reduceCtorEq, hs, Bool.true_and]
      refine useP [_] (aRight_R hse (by omega) (by omega)) ⟨hb1, trivial⟩ ?_
      simp only [push_cast, seval, reduceCtorEq]
theorem r11right_ok {M : Hp} {x : Vi} {v : Value} (hv : ViR x v M) (hm : marksOf M = []) (hb : x.Fit) : CallsV Tryz.prog 30 [v] M (Ret0 (.bool (pB (RiV x)))) := by
  obtain ⟨n1, n2, n3, n4, n5⟩ := hb
  obtain ⟨vb, vr, vw, vc, rfl, h1, h2, h3, h4⟩ := hv
  have hse : SeR x.reads x.writes (.agg #[vr, vw]) M := ⟨vr, vw, rfl, h2, h3⟩
  obtain ⟨pb, kb, rfl⟩ := h1.slice
  obtain ⟨pr, kr, rfl⟩ := LiR.slice h2
  obtain ⟨pw, kw, rfl⟩ := LiR.slice h3
  obtain ⟨pc, kc, rfl, hla⟩ := LiR.openE h4
  refine callsO gU3_ok Tryz.mix plVR2 Tryz.func30 rfl Tryz.ntmps30 Tryz.results30 rfl (by first | rfl | assumption) (Nat.le_of_ble_eq_true rfl) (by kernel_rfl) ?_
  simp only [push_cast, seval, reduceCtorEq]
  intro b1 hb1
  refine loopO gU3_ok (pl := plVR2) Tryz.mix (X := Nat)
    (fun i => ([(1, .pointer (some ⟨b1, 0, none⟩)), (3, .int .i64 i)], ⟨b1, 0, .cel 33, [.slice pb x.base.length kb, .slice pr x.reads.length kr, .slice pw x.writes.length kw, .slice pc x.cells.length kc]⟩ :: M))
    (fun i => i ≤ x.cells.length ∧ ∀ j, j < i → okC x j) (fun i => x.cells.length - i) 0 ?_ ?_ (by kernel_rfl) ?_
  · exact ⟨Nat.zero_le _, fun i h => by omega⟩
  · simp only [push_cast, seval, reduceCtorEq, hm]
  · rintro i ⟨hi, ho⟩
    dsimp only at hi ho ⊢
    rcases Nat.lt_or_ge i x.cells.length with hlt | hge
    · obtain ⟨c, hc⟩ : ∃ c, x.cells[i]? = some c := ⟨x.cells[i], List.getElem?_eq_getElem hlt⟩
      rcases hla with hl0 | ⟨b, f', d, kd, cs, rfl, hfe, hat⟩
      · rw [hl0] at hlt; simp at hlt
      obtain ⟨a1, a2⟩ := hat i c hc
      have a3 : d + i * 35 + 25 ≤ cs.length := by omega
      have a4 : List.take 25 (List.drop (d + i * 35) cs) = c.key.cells := by
        have := congrArg (List.take 25) a2
        rw [c.take25, List.take_take] at this
        exact this
      have i1 : (i : Int) < (x.cells.length : Int) := by omega
      have n3' := (fresh_findS hb1 hfe).2
      have step : okC x i → ∀ j, j < i + 1 → okC x j := fun h j hj => by
        rcases Nat.lt_or_ge j i with h5 | h5
        · exact ho j h5
        · obtain rfl : j = i := by omega
          exact h
      simp only [push_cast, seval, reduceCtorEq, i1, hlt, hfe, n3', a1, a2]
      refine drawO gU3_ok Tryz.mix (Tryz.pl30 4) (by kernel_rfl) ?_
      obtain ⟨my, hmy⟩ : ∃ q, mayCB c = q := ⟨_, rfl⟩
      cases my
      · have e : pB (RiV x) = false := pB_f (okC_bad (i := i) fun h => by
          have := (h c hc).1
          unfold mayCB at hmy
          rw [pB_t this] at hmy; cases hmy)
        rw [e]
        simp only [push_cast, seval, reduceCtorEq, i1, hlt, hfe, n3', a1, a2, a3, a4, hmy]
      have hmx : mayC c := pB_iff.1 hmy
      simp only [push_cast, seval, reduceCtorEq, i1, hlt, hfe, n3', a1, a2, a3, a4, hmy]
      refine takeR [_] (rmay_R (w := true) hse (by omega) (by omega)) ⟨hb1, trivial⟩ ?_
      rw [mayB_w]
      by_cases hw : c.key ∈ x.writes
      case neg =>
        have e : pB (RiV x) = false := pB_f (okC_bad (i := i) fun h => hw (h c hc).2.1)
        rw [e]
        simp only [push_cast, seval, reduceCtorEq, i1, hlt, hfe, n3', a1, a2, a3, a4, hmy, decide_eq_false hw]
      rcases Nat.eq_zero_or_pos i with rfl | hpos
      · have i1' : (0 : Int) < (x.cells.length : Int) := by omega
        have z1 := a1
        have z2 := a2
        have z3 := a3
        have z4 := a4
        rw [Nat.zero_mul, Nat.add_zero] at z1 z2 z3 z4
        simp only [push_cast, seval, reduceCtorEq, i1', z1, z2, z3, z4, i1, hlt, hfe, n3', a1, a2, a3, a4, hmy, decide_eq_true hw, Int.lt_irrefl, Nat.lt_irrefl, wrap_i64' (show -9223372036854775808 ≤ (0 : Int) + 1 ∧ (0 : Int) + 1 ≤ 9223372036854775807 by omega)]
        exact ⟨1, ⟨hlt, step fun y hy => by rw [hc] at hy; cases hy; exact ⟨hmx, hw, fun _ h => absurd h (Nat.lt_irrefl _)⟩⟩, by omega, rfl⟩
      · obtain ⟨k, rfl⟩ : ∃ k, i = k + 1 := ⟨i - 1, by omega⟩
        obtain ⟨y, hy⟩ : ∃ y, x.cells[k]? = some y := ⟨x.cells[k]'(by omega), List.getElem?_eq_getElem (by omega)⟩
        obtain ⟨y1, y2⟩ := hat k y hy
        have y3 : d + k * 35 + 25 ≤ cs.length := by omega
        have y4 : List.take 25 (List.drop (d + k * 35) cs) = y.key.cells := by
          have := congrArg (List.take 25) y2
          rw [y.take25, List.take_take] at this
          exact this
        have p1 : (0 : Int) < (k : Int) + 1 := by omega
        have p2 : (k : Int) + 1 - 1 = (k : Int) := by omega
        have p3 : k < x.cells.length := by omega
        have p4 : (0 : Int) ≤ (k : Int) + 1 := by omega
        have p5 : ((k : Int) + 1).toNat = k + 1 := by omega
        have p6 : (k : Int) + 1 < (x.cells.length : Int) := by omega
        by_cases hco : y.key.lt c.key
        · have ec : ¬ (0 : Int) ≤ ordY y.key c.key := by have := ordY_neg.2 hco; omega
          simp only [push_cast, seval, reduceCtorEq, i1, hlt, hfe, n3', a1, a2, a3, a4, hmy, decide_eq_true hw, p1, p2, p3, p4, p5, p6, y1, y2, y3, y4, ec, wrap_i64' (show -9223372036854775808 ≤ (k : Int) ∧ (k : Int) ≤ 9223372036854775807 by omega), wrap_i64' (show -9223372036854775808 ≤ (k : Int) + 1 + 1 ∧ (k : Int) + 1 + 1 ≤ 9223372036854775807 by omega)]
          exact ⟨k + 2, ⟨hlt, step fun z hz => by rw [hc] at hz; cases hz; exact ⟨hmx, hw, fun u _ hu => by rw [Nat.add_sub_cancel, hy] at hu; cases hu; exact hco⟩⟩, by omega, rfl⟩
        · have ec : (0 : Int) ≤ ordY y.key c.key := by have : ¬ ordY y.key c.key < 0 := fun h => hco (ordY_neg.1 h); omega
          have e : pB (RiV x) = false := pB_f (okC_bad (i := k + 1) fun h => hco ((h c hc).2.2 y (Nat.succ_pos _) (by rw [Nat.add_sub_cancel]; exact hy)))
          rw [e]
          simp only [push_cast, seval, reduceCtorEq, i1, hlt, hfe, n3', a1, a2, a3, a4, hmy, decide_eq_true hw, p1, p2, p3, p4, p5, p6, y1, y2, y3, y4, ec, wrap_i64' (show -9223372036854775808 ≤ (k : Int) ∧ (k : Int) ≤ 9223372036854775807 by omega)]
    · obtain rfl : i = x.cells.length := by omega
      have e : pB (RiV x) = (rightS x.base && (pB (rightKs x.reads) && pB (rightKs x.writes))) := by
        rw [Bool.eq_iff_iff, pB_iff, okC_end ho, Bool.and_eq_true, Bool.and_eq_true, rightS_iff, pB_iff, pB_iff]
      rw [e]
      simp only [push_cast, seval, reduceCtorEq, Nat.lt_irrefl, Int.lt_irrefl]
      refine useP [_] (fun M1 hr1 he1 => refRightS_ok (StR.rd _ _ _ _ he1.symm h1) hr1.marks (by omega) (fun y hy => by have := n2 y hy; omega)) ⟨hb1, trivial⟩ ?_
      cases hs : rightS x.base
      · simp only [push_cast, seval, reduceCtorEq, hs, Bool.false_and]
      simp only [push_cast, seval, reduceCtorEq, hs, Bool.true_and]
      refine useP [_] (rRight_R hse (by omega) (by omega)) ⟨hb1, trivial⟩ ?_
      simp only [push_cast, seval, reduceCtorEq]
theorem vright_R {M : Hp} {x : Vi} {v : Value} (hv : ViR x v M) (hb : x.Fit) : ∀ M0, roM M0 → cellsAt M0 = cellsAt M → CallsV Tryz.prog 29 [v] M0 (Ret0 (.bool (pB (RiV x)))) :=
  fun _ hr he => vright_ok (ViR.rd _ _ _ _ he.symm hv) hr.marks hb
theorem r11right_R {M : Hp} {x : Vi} {v : Value} (hv : ViR x v M) (hb : x.Fit) : ∀ M0, roM M0 → cellsAt M0 = cellsAt M → CallsV Tryz.prog 30 [v] M0 (Ret0 (.bool (pB (RiV x)))) :=
  fun _ hr he => r11right_ok (ViR.rd _ _ _ _ he.symm hv) hr.marks hb
end Go.Proofs.YtincedmdkdjakaaGreat
set_option linter.unusedSimpArgs false
set_option linter.unusedVariables false
namespace Go.Ev
theorem cellsAt_appR {N A B : Hp} (h : cellsAt A = cellsAt B) : cellsAt (N ++ A) = cellsAt (N ++ B) := by
  funext b o n
  have hh := congrFun (congrFun (congrFun h b) o) n
  unfold cellsAt at hh ⊢
  rw [findE_app, findE_app]
  cases findE N b with
  | none => exact hh
  | some e => rfl
theorem StR.find {s : List Ac} {v : Value} {X Y : Hp} (h : ∀ b e, findE X b = some e → findE Y b = some e) (hv : StR s v X) : StR s v Y := by
  obtain ⟨L, h1, h2, h3⟩ := hv
  exact ⟨L, h1, h2.find h, fun x hx => (h3 x hx).find h⟩
theorem ViR.find {x : Vi} {v : Value} {X Y : Hp} (h : ∀ b e, findE X b = some e → findE Y b = some e) (hv : ViR x v X) : ViR x v Y := by
  obtain ⟨vb, vr, vw, vc, rfl, h1, h2, h3, h4⟩ := hv
  exact ⟨vb, vr, vw, vc, rfl, h1.find h, LiR.find h h2, LiR.find h h3, LiR.find h h4⟩
def ViO (e : Nat) (x : Vi) : Value → Hp → Hp → Prop := fun v N1 H => ∃ vb vr vw vc, v = .agg #[vb, vr, vw, vc] ∧ StR x.base vb H ∧ KsR x.reads vr H ∧ KsR x.writes vw H ∧ OutG e 35 (x.cells.flatMap Ce.cells) x.cells.length vc N1
theorem ViO.rd (e : Nat) (x : Vi) : RdOwn (ViO e x) := by
  rintro v N1 A B h ⟨vb, vr, vw, vc, rfl, h1, h2, h3, h4⟩
  exact ⟨vb, vr, vw, vc, rfl, StR.rd _ _ _ _ h h1, h2.congr h, h3.congr h, h4⟩
theorem ViO.r {e : Nat} {x : Vi} {v : Value} {N1 H : Hp} (hf : freshN N1 H) (h : ViO e x v N1 H) : ViR x v (N1 ++ H) := by
  obtain ⟨vb, vr, vw, vc, rfl, h1, h2, h3, h4⟩ := h
  exact ⟨vb, vr, vw, vc, rfl, h1.find (find_behind hf), LiR.find (find_behind hf) h2, LiR.find (find_behind hf) h3, h4.liR rfl rfl H⟩
end Go.Ev
namespace Go.Proofs.YtincedmdkdjakaaGreat
open Go Go.Ev Go.Proofs
set_option maxRecDepth 100000
set_option maxHeartbeats 4000000
attribute [-push_cast] evAppend_nil
def plVO : Plans := fun _ => []
attribute [push_cast] plVO
theorem r11own_ok {M : Hp} {x : Vi} {v : Value} (hv : ViR x v M) (hb : x.Fit) : CallsW Tryz.prog 64 [v] M (ViO 74 x) := by
  intro M0 hr he
  have hm := hr.marks
  replace hv := ViR.rd _ _ _ _ he.symm hv
  obtain ⟨n1, n2, n3, n4, n5⟩ := hb
  obtain ⟨vb, vr, vw, vc, rfl, h1, h2, h3, h4⟩ := hv
  obtain ⟨pb, kb, rfl⟩ := h1.slice
  obtain ⟨pr, kr, rfl⟩ := LiR.slice h2
  obtain ⟨pw, kw, rfl⟩ := LiR.slice h3
  obtain ⟨pc, kc, rfl⟩ := LiR.slice h4
  refine callsO gU3_ok Tryz.mix plVO Tryz.func64 rfl Tryz.ntmps64 Tryz.results64 rfl (by first | rfl | assumption) (Nat.le_of_ble_eq_true rfl) (by kernel_rfl) ?_
  simp only [push_cast, seval, reduceCtorEq]
  intro b1 hb1 b2 hb2
  have f1 : fresh b1 M0 := hb1
  have f2 : fresh b2 M0 := hb2.2.2
  have hL0 : freshN [⟨b2, 0, .cel 33, [.slice none 0 0, .slice none 0 0, .slice none 0 0, .slice none 0 0]⟩, ⟨b1, 0, .cel 33, [.slice pb x.base.length kb, .slice pr x.reads.length kr, .slice pw x.writes.length kw, .slice pc x.cells.length kc]⟩] M0 := ⟨f2, f1, trivial⟩
  have fB1 : findE (⟨b2, 0, .cel 33, [.slice none 0 0, .slice none 0 0, .slice none 0 0, .slice none 0 0]⟩ :: ⟨b1, 0, .cel 33, [.slice pb x.base.length kb, .slice pr x.reads.length kr, .slice pw x.writes.length kw, .slice pc x.cells.length kc]⟩ :: M0) b1 = some ⟨b1, 0, .cel 33, [.slice pb x.base.length kb, .slice pr x.reads.length kr, .slice pw x.writes.length kw, .slice pc x.cells.length kc]⟩ := by simp only [push_cast, seval, reduceCtorEq, hb2]
  refine drawS gU3_ok Tryz.mix [(1, .pointer (some ⟨b1, 0, none⟩)), (2, .pointer (some ⟨b2, 0, none⟩))]
      (fun i val => match i with
        | 0 => val 0 = .pointer (some ⟨b1, 1, none⟩)
        | 1 => val 1 = .pointer (some ⟨b1, 1, none⟩)
        | 2 => val 2 = .slice pr x.reads.length kr
        | 3 => ∃ p k, val 3 = .slice p x.reads.length k
        | 4 => val 4 = .pointer (some ⟨b1, 1, none⟩)
        | 5 => val 5 = .pointer (some ⟨b1, 2, none⟩)
        | 6 => val 6 = .slice pw x.writes.length kw
        | 7 => ∃ p k, val 7 = .slice p x.writes.length k
        | 8 => ∃ p k p' k', val 8 = .agg #[.slice p x.reads.length k, .slice p' x.writes.length k'] ∧ val 3 = .slice p x.reads.length k ∧ val 7 = .slice p' x.writes.length k'
        | 9 => ∃ b, val 9 = .pointer (some ⟨b, 0, none⟩)
        | _ => True)
      (fun i val N => match i with
        | 3 => OutG 45 25 (x.reads.flatMap Ky.cells) x.reads.length (val 3) N
        | 7 => OutG 45 25 (x.writes.flatMap Ky.cells) x.writes.length (val 7) N
        | 8 => N = []
        | 9 => ∃ b, val 9 = .pointer (some ⟨b, 0, none⟩) ∧ N = [⟨b, 0, .cel 30, [.slice none 0 0, .slice none 0 0]⟩]
        | 10 => ∃ b p k p' k', val 9 = .pointer (some ⟨b, 0, none⟩) ∧ val 3 = .slice p x.reads.length k ∧ val 7 = .slice p' x.writes.length k' ∧ N = [⟨b, 0, .cel 30, [.slice p x.reads.length k, .slice p' x.writes.length k']⟩]
        | _ => N = []) (fun i => if i = 10 then [9] else []) [3, 7, 10] (by kernel_rfl) (by kernel_rfl) (by kernel_rfl) ?_ (by rfl) (by decide) (by kernel_rfl) ?_ ?_ ?_ ?_ ?_
  · simp only [push_cast, seval, reduceCtorEq, subT]
  · intro i hi hiF
    replace hi : i < 11 := hi
    obtain rfl | rfl | rfl | rfl | rfl | rfl | rfl | rfl | rfl | rfl | rfl : i = 0 ∨ i = 1 ∨ i = 2 ∨ i = 3 ∨ i = 4 ∨ i = 5 ∨ i = 6 ∨ i = 7 ∨ i = 8 ∨ i = 9 ∨ i = 10 := by omega
    all_goals first
      | exact .inl fun _ _ h => h
      | exact absurd (by decide) hiF
      | exact .inr (by kernel_rfl)
  · intro i o ho val val' h1 h2 hV
    have hi := (Array.getElem?_eq_some_iff.1 ho).1
    replace hi : i < 11 := hi
    obtain rfl | rfl | rfl | rfl | rfl | rfl | rfl | rfl | rfl | rfl | rfl : i = 0 ∨ i = 1 ∨ i = 2 ∨ i = 3 ∨ i = 4 ∨ i = 5 ∨ i = 6 ∨ i = 7 ∨ i = 8 ∨ i = 9 ∨ i = 10 := by omega
    · first
        | exact trivial
        | exact hV
        | exact h1.trans hV
        | (rw [h1]; exact hV)
    · first
        | exact trivial
        | exact hV
        | exact h1.trans hV
        | (rw [h1]; exact hV)
    · first
        | exact trivial
        | exact hV
        | exact h1.trans hV
        | (rw [h1]; exact hV)
    · first
        | exact trivial
        | exact hV
        | exact h1.trans hV
        | (rw [h1]; exact hV)
    · first
        | exact trivial
        | exact hV
        | exact h1.trans hV
        | (rw [h1]; exact hV)
    · first
        | exact trivial
        | exact hV
        | exact h1.trans hV
        | (rw [h1]; exact hV)
    · first
        | exact trivial
        | exact hV
        | exact h1.trans hV
        | (rw [h1]; exact hV)
    · first
        | exact trivial
        | exact hV
        | exact h1.trans hV
        | (rw [h1]; exact hV)
    · simp only [List.getElem?_toArray, List.getElem?_cons_zero, List.getElem?_cons_succ, Option.some.injEq] at ho; subst ho
      have h3' := h2 3 (by kernel_rfl)
      have h7' := h2 7 (by kernel_rfl)
      obtain ⟨p, k, p', k', a1, a2, a3⟩ := hV
      exact ⟨p, k, p', k', by rw [h1]; exact a1, by rw [h3']; exact a2, by rw [h7']; exact a3⟩
    · first
        | exact trivial
        | exact hV
        | exact h1.trans hV
        | (rw [h1]; exact hV)
    · first
        | exact trivial
        | exact hV
        | exact h1.trans hV
        | (rw [h1]; exact hV)
  · intro i o ho val val' N h1 h2 hQ
    have hi := (Array.getElem?_eq_some_iff.1 ho).1
    replace hi : i < 11 := hi
    obtain rfl | rfl | rfl | rfl | rfl | rfl | rfl | rfl | rfl | rfl | rfl : i = 0 ∨ i = 1 ∨ i = 2 ∨ i = 3 ∨ i = 4 ∨ i = 5 ∨ i = 6 ∨ i = 7 ∨ i = 8 ∨ i = 9 ∨ i = 10 := by omega
    · first
        | exact trivial
        | exact hQ
        | exact h1.trans hQ
        | (rw [h1]; exact hQ)
    · first
        | exact trivial
        | exact hQ
        | exact h1.trans hQ
        | (rw [h1]; exact hQ)
    · first
        | exact trivial
        | exact hQ
        | exact h1.trans hQ
        | (rw [h1]; exact hQ)
    · first
        | exact trivial
        | exact hQ
        | exact h1.trans hQ
        | (rw [h1]; exact hQ)
    · first
        | exact trivial
        | exact hQ
        | exact h1.trans hQ
        | (rw [h1]; exact hQ)
    · first
        | exact trivial
        | exact hQ
        | exact h1.trans hQ
        | (rw [h1]; exact hQ)
    · first
        | exact trivial
        | exact hQ
        | exact h1.trans hQ
        | (rw [h1]; exact hQ)
    · first
        | exact trivial
        | exact hQ
        | exact h1.trans hQ
        | (rw [h1]; exact hQ)
    · first
        | exact trivial
        | exact hQ
        | exact h1.trans hQ
        | (rw [h1]; exact hQ)
    · first
        | exact trivial
        | exact hQ
        | exact h1.trans hQ
        | (rw [h1]; exact hQ)
    · simp only [List.getElem?_toArray, List.getElem?_cons_zero, List.getElem?_cons_succ, Option.some.injEq] at ho; subst ho
      have h3' := h2 3 (by kernel_rfl)
      have h7' := h2 7 (by kernel_rfl)
      have h9' := h2 9 (by kernel_rfl)
      obtain ⟨b, p, k, p', k', a1, a2, a3, a4⟩ := hQ
      exact ⟨b, p, k, p', k', by rw [h9']; exact a1, by rw [h3']; exact a2, by rw [h7']; exact a3, a4⟩
  · intro i o ho T' Y val mem hT hdep hus hfr hY hmY hapY
    have hi := (Array.getElem?_eq_some_iff.1 ho).1
    replace hi : i < 11 := hi
    have y1 := hY _ _ fB1
    have hM0Y : ∀ b e, findE M0 b = some e → findE Y b = some e := fun b e h => hY b e (find_behind hL0 b e h)
    have t1 : getT T' 1 = some (.pointer (some ⟨b1, 0, none⟩)) := hT.1
    obtain rfl | rfl | rfl | rfl | rfl | rfl | rfl | rfl | rfl | rfl | rfl : i = 0 ∨ i = 1 ∨ i = 2 ∨ i = 3 ∨ i = 4 ∨ i = 5 ∨ i = 6 ∨ i = 7 ∨ i = 8 ∨ i = 9 ∨ i = 10 := by omega
    · simp only [List.getElem?_toArray, List.getElem?_cons_zero, List.getElem?_cons_succ, Option.some.injEq] at ho; subst ho
      simp only [push_cast, seval, reduceCtorEq, List.flatMap_nil, List.flatMap_cons, List.append_nil, List.nil_append, t1]
      exact ⟨[], rfl, trivial, rfl, upd_self _ _ _, rfl⟩
    · simp only [List.getElem?_toArray, List.getElem?_cons_zero, List.getElem?_cons_succ, Option.some.injEq] at ho; subst ho
      obtain ⟨v0, g0⟩ := hdep 0 (by kernel_rfl)
      replace g0 := g0 4 rfl
      rw [show val 0 = _ from v0] at g0
      simp only [push_cast, seval, reduceCtorEq, List.flatMap_nil, List.flatMap_cons, List.append_nil, List.nil_append, g0]
      exact ⟨[], rfl, trivial, rfl, upd_self _ _ _, rfl⟩
    · simp only [List.getElem?_toArray, List.getElem?_cons_zero, List.getElem?_cons_succ, Option.some.injEq] at ho; subst ho
      obtain ⟨v1, g1⟩ := hdep 1 (by kernel_rfl)
      replace g1 := g1 5 rfl
      rw [show val 1 = _ from v1] at g1
      simp only [push_cast, seval, reduceCtorEq, List.flatMap_nil, List.flatMap_cons, List.append_nil, List.nil_append, g1, y1]
      exact ⟨[], rfl, trivial, rfl, upd_self _ _ _, rfl⟩
    · simp only [List.getElem?_toArray, List.getElem?_cons_zero, List.getElem?_cons_succ, Option.some.injEq] at ho; subst ho
      obtain ⟨v2, g2⟩ := hdep 2 (by kernel_rfl)
      replace g2 := g2 6 rfl
      rw [show val 2 = _ from v2] at g2
      simp only [push_cast, seval, reduceCtorEq, List.flatMap_nil, List.flatMap_cons, List.append_nil, List.nil_append, g2]
      refine append_g (P := Tryz.prog) (e := 45) (sz := 25) (N := []) (cs := []) (n := 0) (ys := x.reads.flatMap Ky.cells) (m := x.reads.length) (by_ := 56) (.inl ⟨rfl, rfl, rfl, rfl⟩) ?_ (((h2).find hM0Y).src (P := Tryz.prog) (xt := 28) (q := 25) (ag := true) (by simp only [push_cast, seval, reduceCtorEq])) (flatMap_len (fun y => y.len) _) (kyAll _) ?_ fun u Nu ho2 hf2 => ?_
      · simp only [push_cast, seval, reduceCtorEq]
      · unfold two47; omega
      rw [List.nil_append, Nat.zero_add] at ho2
      obtain ⟨pn, kn, hun⟩ := ho2.slice
      exact ⟨Nu, rfl, ho2.wr.1, ho2.wr.2, ⟨pn, kn, by rw [upd_self]; exact hun⟩, by rw [upd_self]; exact ho2⟩
    · simp only [List.getElem?_toArray, List.getElem?_cons_zero, List.getElem?_cons_succ, Option.some.injEq] at ho; subst ho
      simp only [push_cast, seval, reduceCtorEq, List.flatMap_nil, List.flatMap_cons, List.append_nil, List.nil_append, t1]
      exact ⟨[], rfl, trivial, rfl, upd_self _ _ _, rfl⟩
    · simp only [List.getElem?_toArray, List.getElem?_cons_zero, List.getElem?_cons_succ, Option.some.injEq] at ho; subst ho
      obtain ⟨v4, g4⟩ := hdep 4 (by kernel_rfl)
      replace g4 := g4 8 rfl
      rw [show val 4 = _ from v4] at g4
      simp only [push_cast, seval, reduceCtorEq, List.flatMap_nil, List.flatMap_cons, List.append_nil, List.nil_append, g4]
      exact ⟨[], rfl, trivial, rfl, upd_self _ _ _, rfl⟩
    · simp only [List.getElem?_toArray, List.getElem?_cons_zero, List.getElem?_cons_succ, Option.some.injEq] at ho; subst ho
      obtain ⟨v5, g5⟩ := hdep 5 (by kernel_rfl)
      replace g5 := g5 9 rfl
      rw [show val 5 = _ from v5] at g5
      simp only [push_cast, seval, reduceCtorEq, List.flatMap_nil, List.flatMap_cons, List.append_nil, List.nil_append, g5, y1]
      exact ⟨[], rfl, trivial, rfl, upd_self _ _ _, rfl⟩
    · simp only [List.getElem?_toArray, List.getElem?_cons_zero, List.getElem?_cons_succ, Option.some.injEq] at ho; subst ho
      obtain ⟨v6, g6⟩ := hdep 6 (by kernel_rfl)
      replace g6 := g6 10 rfl
      rw [show val 6 = _ from v6] at g6
      simp only [push_cast, seval, reduceCtorEq, List.flatMap_nil, List.flatMap_cons, List.append_nil, List.nil_append, g6]
      refine append_g (P := Tryz.prog) (e := 45) (sz := 25) (N := []) (cs := []) (n := 0) (ys := x.writes.flatMap Ky.cells) (m := x.writes.length) (by_ := 56) (.inl ⟨rfl, rfl, rfl, rfl⟩) ?_ (((h3).find hM0Y).src (P := Tryz.prog) (xt := 28) (q := 25) (ag := true) (by simp only [push_cast, seval, reduceCtorEq])) (flatMap_len (fun y => y.len) _) (kyAll _) ?_ fun u Nu ho2 hf2 => ?_
      · simp only [push_cast, seval, reduceCtorEq]
      · unfold two47; omega
      rw [List.nil_append, Nat.zero_add] at ho2
      obtain ⟨pn, kn, hun⟩ := ho2.slice
      exact ⟨Nu, rfl, ho2.wr.1, ho2.wr.2, ⟨pn, kn, by rw [upd_self]; exact hun⟩, by rw [upd_self]; exact ho2⟩
    · simp only [List.getElem?_toArray, List.getElem?_cons_zero, List.getElem?_cons_succ, Option.some.injEq] at ho; subst ho
      obtain ⟨v3, g3⟩ := hdep 3 (by kernel_rfl)
      replace g3 := g3 7 rfl
      obtain ⟨v7, g7⟩ := hdep 7 (by kernel_rfl)
      replace g7 := g7 11 rfl
      obtain ⟨p3, k3, v3⟩ := v3
      obtain ⟨p7, k7, v7⟩ := v7
      have v3 : val 3 = _ := v3
      have v7 : val 7 = _ := v7
      rw [v3] at g3
      rw [v7] at g7
      simp only [push_cast, seval, reduceCtorEq, List.flatMap_nil, List.flatMap_cons, List.append_nil, List.nil_append, g3, g7]
      exact ⟨[], rfl, trivial, rfl, ⟨p3, k3, p7, k7, upd_self _ _ _, by simp [upd, v3], by simp [upd, v7]⟩, rfl⟩
    · simp only [List.getElem?_toArray, List.getElem?_cons_zero, List.getElem?_cons_succ, Option.some.injEq] at ho; subst ho
      simp only [push_cast, seval, reduceCtorEq, List.flatMap_nil, List.flatMap_cons, List.append_nil, List.nil_append]
      intro b hf
      exact ⟨[_], rfl, ⟨trivial, trivial⟩, rfl, ⟨b, upd_self _ _ _⟩, b, upd_self _ _ _, rfl⟩
    · simp only [List.getElem?_toArray, List.getElem?_cons_zero, List.getElem?_cons_succ, Option.some.injEq] at ho; subst ho
      obtain ⟨v8, g8⟩ := hdep 8 (by kernel_rfl)
      replace g8 := g8 12 rfl
      obtain ⟨v9, g9⟩ := hdep 9 (by kernel_rfl)
      replace g9 := g9 3 rfl
      obtain ⟨p3, k3, p7, k7, v8, v3, v7⟩ := v8
      have v8 : val 8 = _ := v8
      rw [v8] at g8
      obtain ⟨b9, v9, hN⟩ := hus 9 (List.mem_singleton.2 rfl)
      have v9 : val 9 = _ := v9
      rw [v9] at g9
      simp only [push_cast, seval, reduceCtorEq, List.flatMap_nil, List.flatMap_cons, List.append_nil, List.nil_append, g8, g9, hN, List.cons_append]
      refine ⟨[_], rfl, ⟨trivial, trivial⟩, rfl, b9, p3, k3, p7, k7, by simp [upd, v9], by simp [upd, v3], by simp [upd, v7], rfl⟩
  · intro val mem hV hQ hap hwr
    obtain ⟨b3, p, k, p', k', v9, v3, v7, hN⟩ := hQ 10 (by decide)
    have o3 : OutG 45 25 (x.reads.flatMap Ky.cells) x.reads.length (val 3) (mem 3) := hQ 3 (by decide)
    have o7 : OutG 45 25 (x.writes.flatMap Ky.cells) x.writes.length (val 7) (mem 7) := hQ 7 (by decide)
    have v9 : val 9 = _ := v9
    have v3 : val 3 = _ := v3
    have v7 : val 7 = _ := v7
    rw [v3] at o3
    rw [v7] at o7
    have hMM : List.flatMap mem [3, 7, 10] ++ (⟨b2, 0, .cel 33, [.slice none 0 0, .slice none 0 0, .slice none 0 0, .slice none 0 0]⟩ :: ⟨b1, 0, .cel 33, [.slice pb x.base.length kb, .slice pr x.reads.length kr, .slice pw x.writes.length kw, .slice pc x.cells.length kc]⟩ :: M0) = mem 3 ++ (mem 7 ++ (⟨b3, 0, .cel 30, [.slice p x.reads.length k, .slice p' x.writes.length k']⟩ :: ⟨b2, 0, .cel 33, [.slice none 0 0, .slice none 0 0, .slice none 0 0, .slice none 0 0]⟩ :: ⟨b1, 0, .cel 33, [.slice pb x.base.length kb, .slice pr x.reads.length kr, .slice pw x.writes.length kw, .slice pc x.cells.length kc]⟩ :: M0)) := by
      simp only [List.flatMap_cons, List.flatMap_nil, List.append_nil, hN, List.append_assoc, List.cons_append, List.nil_append]
    rw [hMM] at hap ⊢
    have a3 := freshN_apart hap o3.wr.1
    have hap' := (List.pairwise_append.1 hap).2.1
    have a7 := freshN_apart hap' o7.wr.1
    have hap2 := (List.pairwise_append.1 hap').2.1
    have a10 := freshN_apart (A := [⟨b3, 0, .cel 30, [.slice p x.reads.length k, .slice p' x.writes.length k']⟩]) hap2 ⟨trivial, trivial⟩
    have hb3 := a10.1
    have a3' := freshN_mono a3
    have c7 := freshN_mono (A := [_, _, _]) a7
    have c3 := freshN_mono (A := [_, _, _]) a3'.2
    have hw := allWr_app o3.wr.1 o7.wr.1
    have hmm : marksOf (mem 3 ++ mem 7) = [] := by rw [marks_append, o3.wr.2, o7.wr.2]; rfl
    have hg1 : Gr M0 (M0 ++ (mem 3 ++ mem 7)) := ⟨hm, _, rfl, hw, hmm⟩
    have fN : freshN (mem 3 ++ mem 7) M0 := freshN_appL.2 ⟨c3.2, c7.2⟩
    have q7 : LiR Ky.cells 25 (M0 ++ (mem 3 ++ mem 7)) x.writes (.slice p' x.writes.length k') := by
      have h0 := o7.liR (l := x.writes) (c := Ky.cells) rfl rfl []
      rw [List.append_nil] at h0
      have h := LiR.find (find_behind a3'.1) h0
      exact LiR.congr (cellsAt_swap fN) (LiR.find (Y := mem 3 ++ mem 7 ++ M0) (fun b e hb => find_left hb) h)
    have q3 : LiR Ky.cells 25 (M0 ++ (mem 3 ++ mem 7)) x.reads (.slice p x.reads.length k) := LiR.congr (cellsAt_swap fN) (LiR.find (fun b e hb => find_left hb) (o3.liR rfl rfl (mem 7)))
    have hL1 : freshN [⟨b3, 0, .cel 30, [.slice p x.reads.length k, .slice p' x.writes.length k']⟩, ⟨b2, 0, .cel 33, [.slice none 0 0, .slice none 0 0, .slice none 0 0, .slice none 0 0]⟩, ⟨b1, 0, .cel 33, [.slice pb x.base.length kb, .slice pr x.reads.length kr, .slice pw x.writes.length kw, .slice pc x.cells.length kc]⟩] (M0 ++ (mem 3 ++ mem 7)) := by
      have h1 : freshN [⟨b3, 0, .cel 30, [.slice p x.reads.length k, .slice p' x.writes.length k']⟩, ⟨b2, 0, .cel 33, [.slice none 0 0, .slice none 0 0, .slice none 0 0, .slice none 0 0]⟩, ⟨b1, 0, .cel 33, [.slice pb x.base.length kb, .slice pr x.reads.length kr, .slice pw x.writes.length kw, .slice pc x.cells.length kc]⟩] (mem 3) := freshN_sym c3.1
      have h2 : freshN [⟨b3, 0, .cel 30, [.slice p x.reads.length k, .slice p' x.writes.length k']⟩, ⟨b2, 0, .cel 33, [.slice none 0 0, .slice none 0 0, .slice none 0 0, .slice none 0 0]⟩, ⟨b1, 0, .cel 33, [.slice pb x.base.length kb, .slice pr x.reads.length kr, .slice pw x.writes.length kw, .slice pc x.cells.length kc]⟩] (mem 7) := freshN_sym c7.1
      have h0 : freshN [⟨b3, 0, .cel 30, [.slice p x.reads.length k, .slice p' x.writes.length k']⟩, ⟨b2, 0, .cel 33, [.slice none 0 0, .slice none 0 0, .slice none 0 0, .slice none 0 0]⟩, ⟨b1, 0, .cel 33, [.slice pb x.base.length kb, .slice pr x.reads.length kr, .slice pw x.writes.length kw, .slice pc x.cells.length kc]⟩] M0 := ⟨(freshN_mono (A := [_, _]) a10).2.1, f2, f1, trivial⟩
      exact freshN_comb h0 (freshN_comb h1 h2)
    simp only [push_cast, seval, reduceCtorEq, v3, v7, v9]
    refine WpV.perm (H' := ⟨b3, 0, .cel 30, [.slice p x.reads.length k, .slice p' x.writes.length k']⟩ :: ⟨b2, 0, .cel 33, [.slice none 0 0, .slice none 0 0, .slice none 0 0, .slice none 0 0]⟩ :: ⟨b1, 0, .cel 33, [.slice pb x.base.length kb, .slice pr x.reads.length kr, .slice pw x.writes.length kw, .slice pc x.cells.length kc]⟩ :: (M0 ++ (mem 3 ++ mem 7))) ?_ ?_ ?_
    · rw [← List.append_assoc]
      exact List.perm_append_comm.trans (by rw [List.cons_append, List.cons_append, List.cons_append])
    · simp [marks_append, marksOf, o3.wr.2, o7.wr.2, hm]
    refine WpV.slots [(1, .pointer (some ⟨b1, 0, none⟩)), (2, .pointer (some ⟨b2, 0, none⟩)), (3, .pointer (some ⟨b3, 0, none⟩))] (by simp only [push_cast, seval, reduceCtorEq]) ?_
    generalize M0 ++ (mem 3 ++ mem 7) = M1 at hg1 q7 q3 hL1 ⊢
    simp only [push_cast, seval, reduceCtorEq] at hb3
    refine drawO gU3_ok Tryz.mix [(0, 0), (1, 0), (3, 0), (4, 0), (5, 0), (2, 2), (6, 2), (7, 0), (8, 1)] (by kernel_rfl) ?_
    simp only [push_cast, seval, reduceCtorEq, hb2, hb3]
    refine useL [_, _, _] (refOwn_R (h1.ext hg1.ext) n1 (fun y hy => by have := n2 y hy; omega)) (StR.rd _) hg1.marks hL1 fun w M2 hg2 hL2 hq2 => ?_
    obtain ⟨pv, kv, rfl⟩ := hq2.slice
    simp only [push_cast, seval, reduceCtorEq, hb2, hb3]
    refine ⟨subH_gr (N := []) trivial hg2, ?_⟩
    have hMM2 : ∀ b e, findE M2 b = some e → findE ([⟨b3, 0, .cel 30, [.slice p x.reads.length k, .slice p' x.writes.length k']⟩, ⟨b2, 0, .cel 33, [.slice none 0 0, .slice none 0 0, .slice none 0 0, .slice none 0 0]⟩, ⟨b1, 0, .cel 33, [.slice pb x.base.length kb, .slice pr x.reads.length kr, .slice pw x.writes.length kw, .slice pc x.cells.length kc]⟩] ++ M2) b = some e := find_behind hL2
    refine append_g (P := Tryz.prog) (e := 74) (sz := 35) (N := []) (cs := []) (n := 0) (ys := x.cells.flatMap Ce.cells) (m := x.cells.length) (by_ := 144) (.inl ⟨rfl, rfl, rfl, rfl⟩) ?_ (((h4.ext (hg1.trans hg2).ext).find hMM2).src (P := Tryz.prog) (xt := 31) (q := 35) (ag := true) (by simp only [push_cast, seval, reduceCtorEq])) (flatMap_len (fun y => y.len) _) (ceAll _) ?_ fun u Nu ho2 hf2 => ?_
    · simp only [push_cast, seval, reduceCtorEq]
    · unfold two47; omega
    rw [List.nil_append, Nat.zero_add] at ho2
    obtain ⟨pn, kn, hun⟩ := ho2.slice
    subst hun
    have hz := fun A hs => doneS (M := M0) (A := A) (hg1.trans hg2) ho2.wr.1 ho2.wr.2 (N1 := Nu) (v := .agg #[.slice pv x.base.length kv, .slice p x.reads.length k, .slice p' x.writes.length k', .slice pn x.cells.length kn]) (freshN_mono (A := [_, _, _]) hf2).2 (ViO.rd 74 x) ⟨_, _, _, _, rfl, hq2, q3.ext hg2.ext, q7.ext hg2.ext, ho2⟩ hs
    have hs2 := subH_new (⟨b3, 0, .cel 30, [.slice p x.reads.length k, .slice p' x.writes.length k']⟩ :: ⟨b2, 0, .cel 33, [.slice none 0 0, .slice none 0 0, .slice none 0 0, .slice none 0 0]⟩ :: ⟨b1, 0, .cel 33, [.slice pb x.base.length kb, .slice pr x.reads.length kr, .slice pw x.writes.length kw, .slice pc x.cells.length kc]⟩ :: M2) Nu fun e he x hx h => freshN_iff.1 hf2 e he x hx h
    refine ⟨hs2, ?_⟩
    rcases ho2 with ⟨x1, x2, x3, rfl⟩ | ⟨bu, cu, x3, x1, x2, rfl⟩
    · simp only [push_cast, seval, reduceCtorEq, hb2, hb3, List.append_eq, List.nil_append, List.cons_append]
      exact hz _ ((((List.Sublist.refl (dropM M2)).cons _).cons _).cons _)
    · have g2 := hf2.1
      simp only [push_cast, seval, reduceCtorEq, List.append_eq, List.nil_append, List.cons_append] at g2
      simp only [push_cast, seval, reduceCtorEq, hb2, hb3, List.append_eq, List.nil_append, List.cons_append, g2]
      exact hz _ (((((List.Sublist.refl (dropM M2)).cons _).cons _).cons _).cons_cons _)
theorem r11own_R {M : Hp} {x : Vi} {v : Value} (hv : ViR x v M) (hb : x.Fit) : CallsR Tryz.prog 64 [v] M (ViR x) :=
  (r11own_ok hv hb).toR fun v N1 A _ _ hf hq => hq.r hf
end Go.Proofs.YtincedmdkdjakaaGreat
set_option linter.unusedSimpArgs false
set_option linter.unusedVariables false
namespace Go.Proofs.YtincedmdkdjakaaGreat
open Go Go.Ev Go.Proofs
set_option maxRecDepth 100000
set_option maxHeartbeats 4000000
def plVW : Plans := fun i => if i = 7 then [] else Tryz.pl54 i
attribute [push_cast] plVW
theorem vown_ok {M : Hp} {x : Vi} {v : Value} (hv : ViR x v M) (hb : x.Fit) : CallsW Tryz.prog 54 [v] M (ViO 74 x) := by
  intro M0 hr he
  have hm := hr.marks
  replace hv := ViR.rd _ _ _ _ he.symm hv
  obtain ⟨n1, n2, n3, n4, n5⟩ := hb
  obtain ⟨vb, vr, vw, vc, rfl, ⟨L, hLb, hl, hsl⟩, h2, h3, h4⟩ := hv
  have hlen : x.base.length = L.length := by rw [← hLb, List.length_map]
  have hl0 := hl
  obtain ⟨pb, kb, rfl⟩ := hl0.slice
  obtain ⟨pr, kr, rfl⟩ := LiR.slice h2
  obtain ⟨pw, kw, rfl⟩ := LiR.slice h3
  obtain ⟨pc, kc, rfl⟩ := LiR.slice h4
  refine callsO gU3_ok Tryz.mix plVW Tryz.func54 rfl Tryz.ntmps54 Tryz.results54 rfl (by first | rfl | assumption) (Nat.le_of_ble_eq_true rfl) (by kernel_rfl) ?_
  simp only [push_cast, seval, reduceCtorEq]
  intro b1 hb1 b2 hb2
  have f1 : fresh b1 M0 := hb1
  have f2 : fresh b2 M0 := hb2.2.2
  simp only [push_cast, seval, reduceCtorEq, hb2]
  refine useB [_, _] (Q := fun u N1 H => OutG 53 27 (L.flatMap acC) L.length u N1) (fun M1 hr1 he1 => ?_) (fun _ _ _ _ _ h => h) hm ⟨f2, f1, trivial⟩ fun v N M1 hg hf hL1 hw hm1 hq => ?_
  · exact (cloneA_ok (hl.congr he1.symm) (fun y hy => (hsl y hy).one) hr1.marks (by omega)).toK fun u N h => ⟨N, [], by simp, h.wr.1, h.wr.2, trivial, rfl, freshN_nil _, fun _ => h⟩
  obtain ⟨p, c, rfl⟩ := hq.slice
  simp only [push_cast, seval, reduceCtorEq, hb2]
  have fNM : ∀ b, fresh b (N ++ M1) → fresh b N ∧ fresh b M1 := fun b h => fresh_app_iff.1 h
  refine loopO gU3_ok (pl := Tryz.pl54) Tryz.mix (X := Nat × List (Ac × Value) × Hp × Hp)
    (fun s => ([(1, .pointer (some ⟨b1, 0, none⟩)), (2, .pointer (some ⟨b2, 0, none⟩)), (10, .int .i64 L.length), (11, .int .i64 s.1)], ⟨b2, 0, .cel 33, [.slice none 0 0, .slice none 0 0, .slice none 0 0, .slice none 0 0]⟩ :: ⟨b1, 0, .cel 33, [.slice p L.length c, .slice pr x.reads.length kr, .slice pw x.writes.length kw, .slice pc x.cells.length kc]⟩ :: (s.2.2.1 ++ s.2.2.2)))
    (fun s => s.1 ≤ L.length ∧ s.2.1.map (·.1) = (L.take s.1).map (·.1) ∧ OutG 53 27 ((s.2.1 ++ L.drop s.1).flatMap acC) L.length (.slice p L.length c) s.2.2.1 ∧ Gr M0 s.2.2.2 ∧ freshN s.2.2.1 s.2.2.2 ∧ freshN [⟨b2, 0, .cel 33, [.slice none 0 0, .slice none 0 0, .slice none 0 0, .slice none 0 0]⟩, ⟨b1, 0, .cel 33, [.slice p L.length c, .slice pr x.reads.length kr, .slice pw x.writes.length kw, .slice pc x.cells.length kc]⟩] (s.2.2.1 ++ s.2.2.2) ∧ ∀ y ∈ s.2.1, LiR Sl.cells 8 s.2.2.2 y.1.slots y.2)
    (fun s => L.length - s.1) (0, [], N, M1) ?_ ?_ (by kernel_rfl) ?_
  · exact ⟨Nat.zero_le _, rfl, hq, hg, hf, hL1, fun y hy => by cases hy⟩
  · simp only [push_cast, seval, reduceCtorEq]
  · rintro ⟨i, B, N, M1⟩ ⟨hi, hB, ho, hg, hf, hL, hsB⟩
    dsimp only at hi hB ho hg hf hL hsB ⊢
    have hBl : B.length = i := by have := congrArg List.length hB; simpa [Nat.min_eq_left hi] using this
    rcases Nat.lt_or_ge i L.length with hlt | hge
    · rcases ho with ⟨h0, -⟩ | ⟨b, c0, hvv, hc, hcl, rfl⟩
      · omega
      cases hvv
      obtain ⟨y, hy⟩ : ∃ x, L[i]? = some x := ⟨L[i], List.getElem?_eq_getElem hlt⟩
      have hd : L.drop i = y :: L.drop (i + 1) := by
        rw [List.drop_eq_getElem_cons hlt, (List.getElem?_eq_some_iff.1 hy).2]
      rw [hd] at hcl ⊢
      obtain ⟨a1, a2⟩ := acC_at (B := B) (R := L.drop (i + 1)) (x := y)
      have a3 := fun sv => acC_set (B := B) (R := L.drop (i + 1)) (x := y) (sv := sv)
      rw [hBl] at a1 a2 a3
      have i1 : (i : Int) < (L.length : Int) := by omega
      have hym := List.mem_of_getElem? hy
      have q2 := hL.1
      have q1 := hL.2.1
      simp only [push_cast, seval, reduceCtorEq] at q1 q2
      simp only [push_cast, seval, reduceCtorEq, hb2, i1, hlt, a1, a2, q1, q2]
      have hLv : freshN [⟨b2, 0, .cel 33, [.slice none 0 0, .slice none 0 0, .slice none 0 0, .slice none 0 0]⟩, ⟨b1, 0, .cel 33, [.slice (some ⟨b, 0, none⟩) L.length c, .slice pr x.reads.length kr, .slice pw x.writes.length kw, .slice pc x.cells.length kc]⟩, ⟨b, 0, .vec 53 27 c, (B ++ y :: L.drop (i + 1)).flatMap acC⟩] M1 := ⟨q2.2.2, q1.2.2, hf.1, trivial⟩
      refine useL [_, _, _] (cloneS_R ((hsl y hym).ext hg.ext) (by have := n2 _ (hLb ▸ List.mem_map_of_mem hym); omega)) (LiR.rd _) hg.marks hLv fun w M2 hg2 hf2 hq2 => ?_
      obtain ⟨ps, ks, rfl⟩ := hq2.slice
      simp only [push_cast, seval, reduceCtorEq, hb2, i1, hlt, a1, a2, a3, q1, q2, wrap_i64' (show -9223372036854775808 ≤ (i : Int) + 1 ∧ (i : Int) + 1 ≤ 9223372036854775807 by omega)]
      have ea : B ++ (y.1, Value.slice ps y.1.slots.length ks) :: L.drop (i + 1) = (B ++ [(y.1, Value.slice ps y.1.slots.length ks)]) ++ L.drop (i + 1) := by simp
      refine ⟨subH_gr (N := []) trivial hg2, (i + 1, B ++ [(y.1, Value.slice ps y.1.slots.length ks)], [⟨b, 0, .vec 53 27 c, (B ++ (y.1, Value.slice ps y.1.slots.length ks) :: L.drop (i + 1)).flatMap acC⟩], M2), ⟨hlt, ?_, .inr ⟨b, c, rfl, hc, ?_, by rw [ea]⟩, hg.trans hg2, ⟨hf2.2.2.1, trivial⟩, ⟨⟨q2.1, q2.2.1, hf2.1⟩, ⟨q1.1, q1.2.1, hf2.2.1⟩⟩, ?_⟩, by dsimp only; omega, rfl, subH_self _, rfl⟩
      · rw [List.map_append, hB, List.take_add_one, hy, List.map_append]; rfl
      · rw [flatMap_len acC_len]
        simp only [List.length_append, List.length_cons, List.length_drop, hBl, List.length_nil]
        congr 1; omega
      · intro z hz
        rcases List.mem_append.1 hz with hz | hz
        · exact (hsB z hz).ext hg2.ext
        · rw [List.mem_singleton.1 hz]; exact hq2
    · obtain rfl : i = L.length := by omega
      rw [List.drop_length, List.append_nil] at ho
      have hst : StO 53 x.base (.slice p L.length c) N M1 := ⟨B, hB.trans (by rw [List.take_length, hLb]), by rw [hBl]; exact ho, hsB⟩
      have hst2 : StR x.base (.slice p L.length c) (M1 ++ N) := StR.rd _ _ _ _ (cellsAt_swap hf) (hst.r hf)
      simp only [push_cast, seval, reduceCtorEq, Nat.lt_irrefl, Int.lt_irrefl]
      refine WpV.perm (H' := ⟨b2, 0, .cel 33, [.slice none 0 0, .slice none 0 0, .slice none 0 0, .slice none 0 0]⟩ :: ⟨b1, 0, .cel 33, [.slice p L.length c, .slice pr x.reads.length kr, .slice pw x.writes.length kw, .slice pc x.cells.length kc]⟩ :: (M1 ++ N)) (((List.perm_append_comm).cons _).cons _) (by simp [marks_append, marksOf, ho.wr.2, hg.marks]) ?_
      refine WpV.slots [(1, .pointer (some ⟨b1, 0, none⟩)), (2, .pointer (some ⟨b2, 0, none⟩))] (by simp only [push_cast, seval, reduceCtorEq]) ?_
      have hg1 : Gr M0 (M1 ++ N) := hg.trans ⟨hg.marks, N, rfl, ho.wr.1, ho.wr.2⟩
      have hLx : freshN [⟨b2, 0, .cel 33, [.slice none 0 0, .slice none 0 0, .slice none 0 0, .slice none 0 0]⟩, ⟨b1, 0, .cel 33, [.slice p L.length c, .slice pr x.reads.length kr, .slice pw x.writes.length kw, .slice pc x.cells.length kc]⟩] (M1 ++ N) := ⟨fresh_app_iff.2 ⟨(fresh_app_iff.1 hL.1).2, (fresh_app_iff.1 hL.1).1⟩, fresh_app_iff.2 ⟨(fresh_app_iff.1 hL.2.1).2, (fresh_app_iff.1 hL.2.1).1⟩, trivial⟩
      generalize M1 ++ N = M2 at hst2 hg1 hLx ⊢
      refine drawO gU3_ok Tryz.mix [(0, 0), (1, 0), (2, 0), (4, 0), (5, 0), (6, 0), (3, 2), (7, 2), (8, 0), (9, 0), (10, 1)] (by kernel_rfl) ?_
      simp only [push_cast, seval, reduceCtorEq, hb2]
      refine useL [_, _] (cloneY_R (h2.ext hg1.ext) n3) (LiR.rd _) hg1.marks hLx fun w M3 hg3 hL3 hq3 => ?_
      obtain ⟨p3, k3, rfl⟩ := hq3.slice
      simp only [push_cast, seval, reduceCtorEq, hb2]
      refine ⟨subH_gr (N := []) trivial hg3, ?_⟩
      refine useL [_, _] (cloneY_R (h3.ext (hg1.trans hg3).ext) n4) (LiR.rd _) hg3.marks hL3 fun w M4 hg4 hL4 hq4 => ?_
      obtain ⟨p4, k4, rfl⟩ := hq4.slice
      simp only [push_cast, seval, reduceCtorEq, hb2]
      refine ⟨subH_gr (N := []) trivial hg4, ?_⟩
      refine useB [_, _] (cloneE_W (h4.ext ((hg1.trans hg3).trans hg4).ext) n5) (fun _ _ _ _ _ h => h) hg4.marks hL4 fun w N5 M5 hg5 hf5 hL5 hw5 hm5 hq5 => ?_
      obtain ⟨p5, k5, rfl⟩ := hq5.slice
      simp only [push_cast, seval, reduceCtorEq, hb2]
      exact doneN [_, _] (((hg1.trans hg3).trans hg4).trans hg5) hw5 hm5 hf5 (ViO.rd _ _) ⟨_, _, _, _, rfl, hst2.ext ((hg3.trans hg4).trans hg5).ext, hq3.ext (hg4.trans hg5).ext, hq4.ext hg5.ext, hq5⟩
theorem vown_R {M : Hp} {x : Vi} {v : Value} (hv : ViR x v M) (hb : x.Fit) : CallsR Tryz.prog 54 [v] M (ViR x) :=
  (vown_ok hv hb).toR fun v N1 A _ _ hf hq => hq.r hf
end Go.Proofs.YtincedmdkdjakaaGreat
