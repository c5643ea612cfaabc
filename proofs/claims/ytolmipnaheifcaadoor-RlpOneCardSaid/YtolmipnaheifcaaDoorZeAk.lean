/- Texts of this claim, merged by program: Ng Nh Oi Oj Ol. -/
import Derived.Test.YtolmipnaheifcaaDoorZeAj
import Derived.Test.YtolmipnaheifcaaDoorZeAf
import Derived.Test.YtolmipnaheifcaaDoorZeAh
set_option linter.unusedSimpArgs false
set_option linter.unusedVariables false
namespace Go.Ev
def allA (x : Iv) (d : Nat) : List (List Value) := (allV x d).map fun p => [.int .i64 (p.1 : Nat), p.2.v]
theorem allV_head (x : Iv) (d : Nat) : allV x d = (d, x) :: (if 16 < d then [] else allVs x.kids (d + 1)) := by
  cases x; rw [allV]; rfl
theorem allVs_take (ks : List Iv) (d : Nat) {i : Nat} {k : Iv} (h : ks[i]? = some k) : allVs (ks.take (i + 1)) d = allVs (ks.take i) d ++ allV k d := by
  induction ks generalizing i with
  | nil => simp at h
  | cons y r ih =>
    cases i with
    | zero => simp only [List.getElem?_cons_zero, Option.some.injEq] at h; subst h; simp [allVs]
    | succ i =>
      rw [List.getElem?_cons_succ] at h
      rw [List.take_succ_cons, allVs, ih h, List.take_succ_cons, allVs, List.append_assoc]
theorem allVs_pre (ks : List Iv) (d i : Nat) : ∃ r, allVs ks d = allVs (ks.take i) d ++ r := by
  induction ks generalizing i with
  | nil => exact ⟨[], by simp [allVs]⟩
  | cons y r ih =>
    cases i with
    | zero => exact ⟨_, by rw [List.take_zero]; simp only [allVs]; rfl⟩
    | succ i =>
      obtain ⟨q, hq⟩ := ih i
      exact ⟨q, by rw [allVs, List.take_succ_cons, allVs, hq, List.append_assoc]⟩
theorem allVs_mem {ks : List Iv} {d : Nat} {q : Nat × Iv} : q ∈ allVs ks d → ∃ k ∈ ks, q ∈ allV k d := by
  induction ks with
  | nil => intro h; simp [allVs] at h
  | cons y r ih =>
    intro h
    rw [allVs, List.mem_append] at h
    rcases h with h | h
    · exact ⟨y, by simp, h⟩
    · obtain ⟨k, hk, hq⟩ := ih h; exact ⟨k, by simp [hk], hq⟩
theorem allV_ok {M : Hp} (x : Iv) : ∀ {d : Nat}, IvOk M x → ∀ q ∈ allV x d, IvOk M q.2 := by
  induction x using Iv.ind with
  | h x ih =>
    intro d hx q hq
    rw [allV_head] at hq
    rcases List.mem_cons.1 hq with rfl | hq
    · exact hx
    · split at hq
      · cases hq
      · obtain ⟨k, hk, hq⟩ := allVs_mem hq
        exact ih k hk (hx.kid k hk) q hq
theorem IvOk.one {M : Hp} {x : Iv} (h : IvOk M x) : oneC x.sv = true := by obtain ⟨p, c, he, -⟩ := h.li; rw [he]; rfl
theorem all_at {x k : Iv} {d i j : Nat} {args : List Value} (hd : ¬ 16 < d) (hi : x.kids[i]? = some k) (hj : (allA k (d + 1))[j]? = some args) : (allA x d)[1 + (allVs (x.kids.take i) (d + 1)).length + j]? = some args := by
  have hjl : j < (allV k (d + 1)).length := by
    have := (List.getElem?_eq_some_iff.1 hj).1
    unfold allA at this
    rwa [List.length_map] at this
  obtain ⟨r, hr⟩ := allVs_pre x.kids (d + 1) (i + 1)
  rw [allVs_take x.kids (d + 1) hi] at hr
  unfold allA at hj ⊢
  rw [allV_head, if_neg hd, List.map_cons, show 1 + (allVs (x.kids.take i) (d + 1)).length + j = ((allVs (x.kids.take i) (d + 1)).length + j) + 1 by omega, List.getElem?_cons_succ, hr, List.append_assoc, List.map_append, List.getElem?_append_right (by rw [List.length_map]; omega), List.length_map, Nat.add_sub_cancel_left, List.map_append, List.getElem?_append_left (by rw [List.length_map]; exact hjl)]
  exact hj
theorem all_len {x : Iv} {d : Nat} (hd : ¬ 16 < d) : (allA x d).length = 1 + (allVs x.kids (d + 1)).length := by
  unfold allA
  rw [List.length_map, allV_head, if_neg hd, List.length_cons]; omega
theorem find_ds {q : Nat} {e : Ent} {base X : Hp} (h : findE base q = some e) : ∀ {Ds : List Nat}, freshN (Ds.map mkD) base → findE (Ds.map mkD ++ (base ++ X)) q = some e
  | [], _ => by rw [List.map_nil, List.nil_append]; exact findE_appT h
  | D :: r, hf => by
    have h1 : ¬ q = D := (fresh_findS (b := D) hf.1 h).2
    rw [List.map_cons, List.cons_append, findE, if_neg (show ¬ q = (mkD D).blk from h1)]
    exact find_ds h hf.2
end Go.Ev
namespace Go.Proofs.YtolmipnaheifcaaDoor
open Go Go.Ev Go.Proofs
set_option maxRecDepth 100000
set_option maxHeartbeats 4000000
theorem rall_ok (x : Iv) (d : Int) (hs : oneC x.sv = true) : CallsV Tryd.prog 28 [x.v, .int .i64 d] [] (fun v N => ∃ b c, v = .func (.func 46) #[] #[.pointer (some ⟨c, 0, none⟩), .pointer (some ⟨b, 0, none⟩)] ∧ N = [⟨c, 0, .cel 3, [.int .i64 d]⟩, ⟨b, 0, .cel 29, x.cells⟩] ∧ ¬ c = b ∧ ¬ b = c) := by
  have xall : x.cells.all oneC = true := Iv.all1 hs
  have xv : x.v.cells.toList = x.cells := rfl
  refine callsO gN3_ok Tryd.mix Tryd.pl28 Tryd.func28 rfl Tryd.ntmps28 Tryd.results28 rfl (by first | rfl | assumption) (Nat.le_of_ble_eq_true rfl) (by kernel_rfl) ?_
  simp only [push_cast, seval, reduceCtorEq, xv]
  intro b c hc
  try simp only [push_cast, seval, reduceCtorEq, hc]
  exact ⟨[_, _], List.Sublist.refl _, b, c, rfl, rfl, hc.1, hc.2⟩
theorem rall1_ok (x : Iv) : ∀ (d : Nat) (Hc : Hp) (b c : Nat) (kb kc : Kind), (∀ e ∈ Hc, e.kind = .ro) → findE Hc b = some ⟨b, 0, kb, x.cells⟩ → findE Hc c = some ⟨c, 0, kc, [.int .i64 (d : Nat)]⟩ → IvOk Hc x → d ≤ 17 →
    IterV Tryd.prog 46 [.pointer (some ⟨c, 0, none⟩), .pointer (some ⟨b, 0, none⟩)] Hc (allA x d) := by
  induction x using Iv.ind with
  | h x ih =>
  intro d Hc b c kb kc hroc hb hc hx hd
  have hmc : marksOf Hc = [] := marks_ro hroc
  refine ⟨enterO Tryd.func46 rfl rfl, fun X Ho I St l x0 hro hmk h0 hy => ?_⟩
  have hmarks : ∀ x, marksOf (Hc ++ Ho x) = [] := fun x => by rw [marks_append, hmc, hmk]; rfl
  have hm0 := hmarks x0
  have hb' := fun z => findE_appT (B := Ho z) hb
  have hc' := fun z => findE_appT (B := Ho z) hc
  have hhead := allV_head x d
  obtain ⟨vs, hvs⟩ : ∃ vs, vs = allA x d := ⟨_, rfl⟩
  have hv0 : vs[0]? = some [.int .i64 (d : Nat), x.v] := by rw [hvs]; unfold allA; rw [hhead]; rfl
  rw [← hvs] at hy ⊢
  have yl : ∀ (j : Nat) (z : X) (args : List Value) (e : Ent) (A : Hp) (K' : Value → Hp → Prop), vs[j]? = some args → I j z → marksOf [e] = [] → (∀ x', I (j + 1) x' → K' (.bool true) (A ++ (Ho x' ++ [e]))) → (∀ x', St x' → K' (.bool false) (A ++ (Ho x' ++ [e]))) → YieldV Tryd.prog l args (e :: (A ++ Ho z)) K' := fun j z args e A K' hj hi hme ht hf => by
    refine (hy j z args hj hi).frame2 ?_ hme ?_
    · rintro v H' (⟨rfl, x', _, rfl⟩ | ⟨rfl, x', _, rfl⟩) <;> exact hro z x'
    · rintro v H' (⟨rfl, x', h, rfl⟩ | ⟨rfl, x', h, rfl⟩)
      · exact ht x' h
      · exact hf x' h
  obtain ⟨p, cc, hsv, -⟩ := id hx.li
  have c1l : List.take 1 (List.drop 2 x.cells) = [.slice p x.kids.length cc] := by rw [Iv.drop2, hsv]
  have c3l : List.take 3 x.cells = x.cells := List.take_of_length_le (Nat.le_of_eq rfl)
  have yf : ∀ (x' : X) (e : Ent), marksOf [e] = [] → (I vs.length x' ∨ St x') → ∃ H'_1, List.Sublist H'_1 (dropM (Hc ++ (Ho x' ++ [e]))) ∧ ∃ x, (I vs.length x ∨ St x) ∧ H'_1 = Ho x := fun x' e hm hst => by
    refine ⟨Ho x', ?_, x', hst, rfl⟩
    rw [← List.append_assoc, dropM_eq (by rw [marks_append, hmarks, hm]; rfl)]
    exact (List.sublist_append_right _ _).trans (List.sublist_append_left _ _)
  refine callsO gN3_ok Tryd.mix Tryd.pl46 Tryd.func46 rfl Tryd.ntmps46 Tryd.results46 rfl (by first | rfl | assumption) (Nat.le_of_ble_eq_true rfl) (by kernel_rfl) ?_
  simp only [push_cast, seval, reduceCtorEq]
  intro b3 hb3
  have d1 := (fresh_findS hb3 (hb' x0)).2
  have d2 := (fresh_findS hb3 (hc' x0)).2
  try simp only [push_cast, seval, reduceCtorEq, d1, d2, hb', hc', Iv.len, c3l]
  refine yl 0 x0 _ ⟨b3, 0, .cel 95, [.func (.yield l) #[] #[]]⟩ Hc _ hv0 h0 rfl (fun x' hx' => ?_) (fun x' hx' => ?_)
  · have hb2 := findE_appT (B := Ho x' ++ [⟨b3, 0, .cel 95, [.func (.yield l) #[] #[]]⟩]) hb
    have hc2 := findE_appT (B := Ho x' ++ [⟨b3, 0, .cel 95, [.func (.yield l) #[] #[]]⟩]) hc
    by_cases h16 : 16 < d
    · have k1 : (16 : Int) < (d : Int) := by omega
      simp only [push_cast, seval, reduceCtorEq, hb2, hc2, k1]
      exact yf x' _ rfl (.inl (by have hl : vs.length = 1 := by { rw [hvs]; unfold allA; rw [hhead, if_pos h16]; rfl }
                                  rw [hl]; exact hx'))
    · have k1 : ¬ (16 : Int) < (d : Int) := by omega
      simp only [push_cast, seval, reduceCtorEq, hb2, hc2, k1, Iv.len, c1l]
      obtain ⟨B3, hB3⟩ : ∃ B : Ent, B = ⟨b3, 0, .cel 95, [.func (.yield l) #[] #[]]⟩ := ⟨_, rfl⟩
      rw [← hB3]
      have mB3 : marksOf [B3] = [] := by rw [hB3]; rfl
      have f3 : fresh b3 Hc := (fresh_app_iff.1 hb3).1
      refine WpV.perm (H' := B3 :: (Hc ++ Ho x')) (by rw [← List.append_assoc]; exact List.perm_append_singleton ..) (by rw [← List.append_assoc, marks_append _ [B3], mB3, List.append_nil, hmarks, show B3 :: (Hc ++ Ho x') = [B3] ++ (Hc ++ Ho x') from rfl, marks_append, mB3, hmarks]; rfl) ?_
      have hF3 : findE (B3 :: Hc) b3 = some B3 := by rw [hB3]; simp [findE]
      have hFb : findE (B3 :: Hc) b = some ⟨b, 0, kb, x.cells⟩ := by rw [hB3, findE, if_neg d1]; exact hb
      have hFc : findE (B3 :: Hc) c = some ⟨c, 0, kc, [.int .i64 (d : Nat)]⟩ := by rw [hB3, findE, if_neg d2]; exact hc
      refine loopO gN3_ok (pl := Tryd.pl46) Tryd.mix (X := (Nat × X) × List Nat)
        (fun s => ([(1, .pointer (some ⟨c, 0, none⟩)), (2, .pointer (some ⟨b, 0, none⟩)), (3, .pointer (some ⟨b3, 0, none⟩)), (18, .slice p x.kids.length cc), (19, .int .i64 x.kids.length), (20, .int .i64 s.1.1)], s.2.map mkD ++ ((B3 :: Hc) ++ Ho s.1.2)))
        (fun s => s.1.1 ≤ x.kids.length ∧ I (1 + (allVs (x.kids.take s.1.1) (d + 1)).length) s.1.2 ∧ freshN (s.2.map mkD) (B3 :: Hc)) (fun s => x.kids.length - s.1.1) ((0, x'), []) ?_ ?_ (by kernel_rfl) ?_
      · exact ⟨Nat.zero_le _, by simpa [allVs] using hx', trivial⟩
      · simp only [push_cast, seval, reduceCtorEq]
        try exact subH_self _
      · rintro ⟨⟨i, z⟩, Ds⟩ ⟨hi, hI, hfD⟩
        dsimp only at hi hI hfD ⊢
        have hG3 : findE (Ds.map mkD ++ B3 :: (Hc ++ Ho z)) b3 = some _ := find_ds (X := Ho z) hF3 hfD
        have hGb : findE (Ds.map mkD ++ B3 :: (Hc ++ Ho z)) b = some _ := find_ds (X := Ho z) hFb hfD
        have hGc : findE (Ds.map mkD ++ B3 :: (Hc ++ Ho z)) c = some _ := find_ds (X := Ho z) hFc hfD
        have hmB : marksOf (B3 :: Hc ++ Ho z) = [] := by rw [List.cons_append, show B3 :: (Hc ++ Ho z) = [B3] ++ (Hc ++ Ho z) from rfl, marks_append, mB3, hmarks]; rfl
        rcases Nat.lt_or_ge i x.kids.length with hlt | hge
        · obtain ⟨k, hk⟩ : ∃ k, x.kids[i]? = some k := ⟨x.kids[i], List.getElem?_eq_getElem hlt⟩
          have hkm := List.mem_of_getElem? hk
          obtain ⟨p', cc', hsv', hla⟩ := hx.li.openC Iv.len (by decide)
          rw [hsv] at hsv'
          obtain ⟨rfl, rfl⟩ : p = p' ∧ cc = cc' := by injection hsv' with h1 h2 h3; exact ⟨h1, h3⟩
          rcases hla with hl0 | ⟨bb, f, dd, kd, cs, rfl, he, hat⟩
          · rw [hl0] at hk; simp at hk
          obtain ⟨a1, a2⟩ := hat i k hk
          have d3 := (fresh_findS f3 he).2
          have hFk : findE (B3 :: Hc) bb = some ⟨bb, f, kd, cs⟩ := by rw [hB3, findE, if_neg d3]; exact he
          have hGk : findE (Ds.map mkD ++ B3 :: (Hc ++ Ho z)) bb = some _ := find_ds (X := Ho z) hFk hfD
          have kok := hx.kid k hkm
          have k1one : oneC k.sv = true := by obtain ⟨p, c, he, -⟩ := kok.li; rw [he]; rfl
          have kall : k.cells.all oneC = true := Iv.all1 k1one
          have k3 : List.take 3 k.cells = k.cells := List.take_of_length_le (Nat.le_of_eq rfl)
          have i1 : (i : Int) < (x.kids.length : Int) := by omega
          simp only [push_cast, seval, reduceCtorEq, i1, hlt, hGk, a1, a2, kall, Iv.len, k3]
          intro b5 hb5
          have e5 := (fresh_findS hb5 hGc).2
          simp only [push_cast, seval, reduceCtorEq, e5, hGc, Iv.len, k3, wrap_i64' (show -9223372036854775808 ≤ (d : Int) + 1 ∧ (d : Int) + 1 ≤ 9223372036854775807 by omega)]
          rw [show (d : Int) + 1 = ((d + 1 : Nat) : Int) from rfl]
          refine (rall_ok k ((d + 1 : Nat) : Int) k1one).use trivial ?_
          rintro _ _ ⟨b', c', rfl, rfl, hne, hne2⟩
          refine ⟨⟨trivial, trivial, trivial⟩, rfl, fun hfn => ?_⟩
          simp only [push_cast, seval, reduceCtorEq]
          obtain ⟨C, hC⟩ : ∃ C : Ent, C = ⟨c', 0, .cel 3, [.int .i64 ((d + 1 : Nat) : Int)]⟩ := ⟨_, rfl⟩
          obtain ⟨Bk, hBk⟩ : ∃ C : Ent, C = ⟨b', 0, .cel 29, k.cells⟩ := ⟨_, rfl⟩
          obtain ⟨E5, hE5⟩ : ∃ C : Ent, C = ⟨b5, 0, .cel 29, k.cells⟩ := ⟨_, rfl⟩
          rw [← hE5] at hfn
          obtain ⟨fc', fb', -⟩ := hfn
          have gc := fresh_app fc'.2.2
          have gb := fresh_app fb'.2.2
          have hc'H : fresh c' Hc := (fresh_app_iff.1 gc.2.2).1
          have hb'H : fresh b' Hc := (fresh_app_iff.1 gb.2.2).1
          rw [show (⟨c', 0, .cel 3, [.int .i64 ((d : Int) + 1)]⟩ : Ent) = C from hC.symm, ← hBk, ← hE5]
          have mB : ∀ X : Hp, marksOf (B3 :: X) = marksOf X := fun X => by rw [hB3]; rfl
          have mC : ∀ X : Hp, marksOf (C :: X) = marksOf X := fun X => by rw [hC]; rfl
          have mK : ∀ X : Hp, marksOf (Bk :: X) = marksOf X := fun X => by rw [hBk]; rfl
          have mN : marksOf ([] : Hp) = [] := rfl
          have m5 : ∀ X : Hp, marksOf (E5 :: X) = marksOf X := fun X => by rw [hE5]; rfl
          refine WpV.perm (H' := ([C, Bk, E5] ++ (Ds.map mkD ++ (B3 :: Ho z))) ++ Hc) ?_ ?_ ?_
          · classical
            refine List.perm_iff_count.2 fun a => ?_
            simp only [List.count_append, List.count_cons, List.count_nil]
            omega
          · simp [marks_append, mB, mC, mK, m5, hmc, hmk, mkD_marks, mN]
          refine WpV.dupN (L := [C, Bk, E5] ++ (Ds.map mkD ++ (B3 :: Ho z))) hroc ?_
          refine WpV.perm (H' := ([C, Bk] ++ Hc) ++ ((Ds.map mkD ++ (B3 :: (Hc ++ Ho z))) ++ [E5])) ?_ ?_ ?_
          · classical
            refine List.perm_iff_count.2 fun a => ?_
            simp only [List.count_append, List.count_cons, List.count_nil]
            omega
          · simp [marks_append, mB, mC, mK, m5, hmc, hmk, mkD_marks, mN]
          have hit' : IterV Tryd.prog 46 [.pointer (some ⟨c', 0, none⟩), .pointer (some ⟨b', 0, none⟩)] ([C, Bk] ++ Hc) (allA k (d + 1)) := by
            refine IterV.toRo (A := [C, Bk]) ?_ ?_
            · intro e he
              rcases List.mem_cons.1 he with rfl | he
              · rw [hC]; exact ⟨rfl, _, rfl⟩
              · rw [List.mem_singleton.1 he, hBk]; exact ⟨rfl, _, rfl⟩
            have x1 : Ext Hc (roE Bk :: Hc) := Ext.cons hmc (by rw [hBk]; rfl) (by rw [hBk]; exact hb'H)
            have x2 : Ext (roE Bk :: Hc) (roE C :: roE Bk :: Hc) := Ext.cons (by rw [hBk]; exact hmc) (by rw [hC]; rfl) (by rw [hC, hBk]; exact ⟨hne, hne2, hc'H⟩)
            refine ih k hkm (d + 1) ([C, Bk].map roE ++ Hc) b' c' .ro .ro ?_ ?_ ?_ ((kok.ext x1).ext x2) (by omega)
            · intro e he
              rcases List.mem_append.1 he with he | he
              · obtain ⟨y, -, rfl⟩ := List.mem_map.1 he; rfl
              · exact hroc e he
            · rw [hC, hBk]; simp [findE, roE, hne2]
            · rw [hC, hBk]; simp [findE, roE]
          have hlk : (allA k (d + 1)).length = (allV k (d + 1)).length := by unfold allA; rw [List.length_map]
          have htk := allVs_take x.kids (d + 1) hk
          refine rangeO gN3_ok (pl := Tryd.pl46) Tryd.mix (Hc := [C, Bk] ++ Hc) (Hm := Ds.map mkD) hit' rfl
            (X := X) (fun z => B3 :: (Hc ++ Ho z)) (fun j z => I (1 + (allVs (x.kids.take i) (d + 1)).length + j) z) (fun c z => c = .ret ∧ St z) z
            ?_ ?_ ?_ ?_ (mkD_wr Ds) (fun z => ?_) (fun z y e he => ?_) ?_ (by kernel_rfl) (by kernel_rfl) ?_ ?_ ?_ ?_
          · exact hI
          · rw [show [C, Bk] ++ Hc ++ (Ds.map mkD ++ B3 :: (Hc ++ Ho z) ++ [E5]) = ([C, Bk] ++ Hc ++ (Ds.map mkD ++ B3 :: (Hc ++ Ho z))) ++ [E5] by simp only [List.append_assoc]]
            exact subH_frontN _ _
          · simp [marks_append, mB, mC, mK, m5, hmc, hmk, mkD_marks, mN]
          · simp [marks_append, mC, mK, hmc]
          · simp [marks_append, mB, hmc, hmk]
          · rcases List.mem_cons.1 he with rfl | he
            · exact .inr (by simp)
            rcases List.mem_append.1 he with he | he
            · exact .inr (by simp [he])
            · rcases hro z y e he with h | h
              · exact .inl h
              · exact .inr (by simp [h])
          · intro args ha
            obtain ⟨y, -, rfl⟩ := List.mem_map.1 ha
            rfl
          · rintro c' z' ⟨rfl, -⟩
            kernel_rfl
          · rintro lo j z1 args hj hI1
            have hat2 := all_at h16 hk hj
            rw [← hvs] at hat2
            obtain ⟨q, hq, rfl⟩ := Option.map_eq_some_iff.1 ((List.getElem?_map ..).symm.trans hj)
            subst hB3
            have qok := allV_ok k kok q (List.mem_of_getElem? hq)
            have qall : q.2.cells.all oneC = true := Iv.all1 qok.one
            have q3 : List.take 3 q.2.cells = q.2.cells := List.take_of_length_le (Nat.le_of_eq rfl)
            have qv : q.2.v.cells.toList = q.2.cells := rfl
            have hf3' : findE ((⟨b3, 0, .cel 95, [.func (.yield l) #[] #[]]⟩ : Ent) :: (Hc ++ Ho z1)) b3 = some ⟨b3, 0, .cel 95, [.func (.yield l) #[] #[]]⟩ := by simp [findE]
            have hmB1 : marksOf ((⟨b3, 0, .cel 95, [.func (.yield l) #[] #[]]⟩ : Ent) :: (Hc ++ Ho z1)) = [] := hmarks z1
            generalize hRK : (roundK _ _ _ j : Exit → Tm → Hp → Prop) = RK
            show oC _ _ _ _ _ _ _ (parT 36 _ _ [.int .i64 (q.1 : Nat), q.2.v]) _
            simp only [push_cast, seval, reduceCtorEq, hmB1, qall, q3, Iv.len, qv]
            intro b7 hb7
            have e7 := hb7.2.1
            simp only [push_cast, seval, reduceCtorEq, e7, q3, Iv.len]
            refine ⟨hmarks z1, roSub_of fun e he => .inr (List.mem_cons_of_mem _ he), ?_⟩
            refine yl _ z1 _ ⟨b7, 0, .cel 29, q.2.cells⟩ (_ :: Hc) _ hat2 hI1 rfl (fun x' hx' => ?_) (fun x' hx' => ?_)
            · simp only [push_cast, seval, reduceCtorEq]
              rw [← hRK]
              exact ⟨x', hx', by rw [← List.append_assoc]; exact subH_frontN [_] (_ :: (Hc ++ Ho x'))⟩
            · simp only [push_cast, seval, reduceCtorEq]
              rw [← hRK]
              exact ⟨x', ⟨rfl, hx'⟩, by rw [← List.append_assoc]; exact subH_frontN [_] (_ :: (Hc ++ Ho x'))⟩
          · rintro D z1 hfD1 hI1
            have hI2 : I (1 + (allVs (x.kids.take (i + 1)) (d + 1)).length) z1 := by
              rw [htk, List.length_append, ← Nat.add_assoc, ← hlk]; exact hI1
            have hD2 : fresh D (B3 :: Hc) := by
              have h1 := fresh_app hfD1
              rw [show B3 :: (Hc ++ Ho z1) = (B3 :: Hc) ++ Ho z1 from rfl] at h1
              exact (fresh_app_iff.1 h1).1
            have hxl := hx.len
            simp only [push_cast, seval, reduceCtorEq, wrap_i64' (show -9223372036854775808 ≤ (i : Int) + 1 ∧ (i : Int) + 1 ≤ 9223372036854775807 by omega)]
            exact ⟨((i + 1, z1), D :: Ds), ⟨hlt, hI2, hD2, hfD⟩, by dsimp only; omega, rfl, subH_self _, rfl⟩
          · rintro D cd z1 hfD1 ⟨rfl, hst⟩
            simp only [push_cast, seval, reduceCtorEq]
            refine ⟨Ho z1, ?_, z1, .inr hst, rfl⟩
            rw [dropM_app, dropM_mkD, List.nil_append, dropM_eq (by rw [mB]; exact hmarks z1), show B3 :: (Hc ++ Ho z1) = (B3 :: Hc) ++ Ho z1 from rfl]
            exact List.sublist_append_right _ _
        · obtain rfl : i = x.kids.length := by omega
          simp only [push_cast, seval, reduceCtorEq, Int.lt_irrefl]
          refine ⟨Ho z, ?_, z, .inl ?_, rfl⟩
          · rw [dropM_app, dropM_mkD, List.nil_append, show B3 :: (Hc ++ Ho z) = (B3 :: Hc) ++ Ho z from rfl, dropM_eq hmB]
            exact List.sublist_append_right _ _
          · rw [hvs, all_len h16]
            rw [List.take_length] at hI
            exact hI
  · simp only [push_cast, seval, reduceCtorEq]
    exact yf x' _ rfl (.inr hx')
end Go.Proofs.YtolmipnaheifcaaDoor
set_option linter.unusedSimpArgs false
set_option linter.unusedVariables false
namespace Go.Ev
def okN (j : Nat) (p : Nat × Iv) : Bool := decide (j + 1 ≤ 5000) && (decide (p.1 ≤ 16) && wfI p.2.it)
theorem wfI_it (y : Iv) : wfI y.it = if y.list then y.bytes.isEmpty else y.kids.isEmpty := by
  unfold wfI
  rw [Iv.it_list, Iv.it_bytes, Iv.it_kids]
  cases y.list <;> simp [List.isEmpty_iff]
theorem rightI_it (x : Iv) : rightI x.it = (decide ((allV x 1).length ≤ 5000) && (allV x 1).all fun p => decide (p.1 ≤ 16) && wfI p.2.it) := by
  unfold rightI
  rw [← allV_it, List.length_map, List.all_map]
  rfl
theorem right_all {x : Iv} (h : ∀ j p, (allV x 1)[j]? = some p → okN j p = true) : rightI x.it = true := by
  rw [rightI_it, Bool.and_eq_true, decide_eq_true_eq, List.all_eq_true]
  refine ⟨?_, fun p hp => ?_⟩
  · rcases Nat.eq_zero_or_pos (allV x 1).length with h0 | h0
    · omega
    · have := h ((allV x 1).length - 1) _ (List.getElem?_eq_getElem (by omega))
      unfold okN at this
      rw [Bool.and_eq_true, decide_eq_true_eq] at this
      omega
  · obtain ⟨j, hj⟩ := List.getElem?_of_mem hp
    have := h j p hj
    unfold okN at this
    rw [Bool.and_eq_true] at this
    exact this.2
theorem right_not {x : Iv} {j : Nat} {p : Nat × Iv} (hj : (allV x 1)[j]? = some p) (h : okN j p = false) : rightI x.it = false := by
  cases hr : rightI x.it with
  | false => rfl
  | true =>
    rw [rightI_it, Bool.and_eq_true, decide_eq_true_eq, List.all_eq_true] at hr
    have hlt := (List.getElem?_eq_some_iff.1 hj).1
    have h2 := hr.2 p (List.mem_of_getElem? hj)
    unfold okN at h
    rw [decide_eq_true (by omega), Bool.true_and, h2] at h
    cases h
end Go.Ev
namespace Go.Proofs.YtolmipnaheifcaaDoor
open Go Go.Ev Go.Proofs
set_option maxRecDepth 100000
set_option maxHeartbeats 4000000
def plRRN : Plans := fun i => if i = 6 then [(0, 9)] else Tryd.pl14 i
attribute [push_cast] plRRN
theorem rright_ok {M0 : Hp} (hr : roM M0) {x : Iv} (hx : IvOk M0 x) : CallsV Tryd.prog 14 [x.v] M0 (Ret0 (.bool (rightI x.it))) := by
  have hm := hr.marks
  have xall : x.cells.all oneC = true := Iv.all1 hx.one
  have xv : x.v.cells.toList = x.cells := rfl
  have x3 : List.take 3 x.cells = x.cells := List.take_of_length_le (Nat.le_of_eq rfl)
  obtain ⟨R, hR⟩ : ∃ R, R = rightI x.it := ⟨_, rfl⟩
  rw [← hR]
  refine callsO gN3_ok Tryd.mix plRRN Tryd.func14 rfl Tryd.ntmps14 Tryd.results14 rfl (by first | rfl | assumption) (Nat.le_of_ble_eq_true rfl) (by kernel_rfl) ?_
  simp only [push_cast, seval, reduceCtorEq, xv]
  intro b1 hb1 b2 hb2 b3 hb3
  try simp only [push_cast, seval, reduceCtorEq, hb2, hb3, x3, Iv.len]
  have hroM : ∀ e ∈ M0, e.kind = .ro := fun e he => (derE_mem hr.der e he).1
  have f1 : fresh b1 M0 := hb1
  refine (rall_ok x ((1 : Nat) : Int) hx.one).use trivial ?_
  rintro _ _ ⟨b', c', rfl, rfl, hne, hne2⟩
  refine ⟨⟨trivial, trivial, trivial⟩, rfl, fun hfn => ?_⟩
  have hfn0 := hfn
  simp only [push_cast, seval, reduceCtorEq] at hfn0
  simp only [push_cast, seval, reduceCtorEq, hb2, hb3]
  obtain ⟨C, hC⟩ : ∃ C : Ent, C = ⟨c', 0, .cel 3, [.int .i64 1]⟩ := ⟨_, rfl⟩
  obtain ⟨Bk, hBk⟩ : ∃ C : Ent, C = ⟨b', 0, .cel 29, x.cells⟩ := ⟨_, rfl⟩
  rw [← hC, ← hBk]
  have mC : ∀ X : Hp, marksOf (C :: X) = marksOf X := fun X => by rw [hC]; rfl
  have mK : ∀ X : Hp, marksOf (Bk :: X) = marksOf X := fun X => by rw [hBk]; rfl
  obtain ⟨fc', fb', -⟩ := hfn
  have hc'M : fresh c' M0 := fc'.2.2.2.2.2.2
  have hb'M : fresh b' M0 := fb'.2.2.2.2.2.2
  refine WpV.perm (H' := ([C, Bk] ++ M0) ++ ([⟨b3, 0, .cel 3, [.int .i64 0]⟩, ⟨b2, 0, .cel 4, [.bool false]⟩] ++ [⟨b1, 0, .cel 29, x.cells⟩])) ?_ ?_ ?_
  · classical
    refine List.perm_iff_count.2 fun a => ?_
    simp only [List.count_append, List.count_cons, List.count_nil]
    omega
  · subst hC hBk; simp [marks_append, hm, marksOf]
  have hit' : IterV Tryd.prog 46 [.pointer (some ⟨c', 0, none⟩), .pointer (some ⟨b', 0, none⟩)] ([C, Bk] ++ M0) (allA x 1) := by
    refine IterV.toRo (A := [C, Bk]) ?_ ?_
    · intro e he
      rcases List.mem_cons.1 he with rfl | he
      · rw [hC]; exact ⟨rfl, _, rfl⟩
      · rw [List.mem_singleton.1 he, hBk]; exact ⟨rfl, _, rfl⟩
    have x1 : Ext M0 (roE Bk :: M0) := Ext.cons hm (by rw [hBk]; rfl) (by rw [hBk]; exact hb'M)
    have x2 : Ext (roE Bk :: M0) (roE C :: roE Bk :: M0) := Ext.cons (by rw [hBk]; exact hm) (by rw [hC]; rfl) (by rw [hC, hBk]; exact ⟨hne, hne2, hc'M⟩)
    refine rall1_ok x 1 ([C, Bk].map roE ++ M0) b' c' .ro .ro ?_ ?_ ?_ ((hx.ext x1).ext x2) (by omega)
    · intro e he
      rcases List.mem_append.1 he with he | he
      · obtain ⟨y, -, rfl⟩ := List.mem_map.1 he; rfl
      · exact hroM e he
    · rw [hC, hBk]; simp [findE, roE, hne2]
    · rw [hC, hBk]; simp [findE, roE]
  refine rangeO gN3_ok (pl := plRRN) Tryd.mix (Hc := [C, Bk] ++ M0) (Hm := []) hit' rfl
    (X := Nat × Bool) (fun s => [⟨b3, 0, .cel 3, [.int .i64 s.1]⟩, ⟨b2, 0, .cel 4, [.bool s.2]⟩])
    (fun k s => s = (k, false) ∧ ∀ j p, j < k → (allV x 1)[j]? = some p → okN j p = true) (fun c s => c = .ret ∧ s.2 = false ∧ R = false) (0, false)
    ?_ ?_ ?_ ?_ (by simp) (fun s => rfl) (fun s u e he => .inl ?_) ?_ (by kernel_rfl) (by kernel_rfl) ?_ ?_ ?_ ?_
  · exact ⟨rfl, fun j p hj => absurd hj (Nat.not_lt_zero _)⟩
  · rw [← List.append_assoc]; exact subH_frontN _ _
  · subst hC hBk; simp [marks_append, hm, marksOf]
  · subst hC hBk; simp [marks_append, hm, marksOf]
  · simp at he; rcases he with rfl | rfl <;> trivial
  · intro args ha
    obtain ⟨y, -, rfl⟩ := List.mem_map.1 ha
    rfl
  · rintro c' z' ⟨rfl, -⟩
    kernel_rfl
  · rintro lo k s args hk ⟨rfl, hok⟩
    obtain ⟨q, hq, rfl⟩ := Option.map_eq_some_iff.1 ((List.getElem?_map ..).symm.trans hk)
    have qok := allV_ok x hx q (List.mem_of_getElem? hq)
    have qall : q.2.cells.all oneC = true := Iv.all1 qok.one
    have q3 : List.take 3 q.2.cells = q.2.cells := List.take_of_length_le (Nat.le_of_eq rfl)
    have qv : q.2.v.cells.toList = q.2.cells := rfl
    have hk5 : k ≤ 5000 := by
      rcases Nat.eq_zero_or_pos k with h0 | h0
      · omega
      · have hlt := (List.getElem?_eq_some_iff.1 hq).1
        have := hok (k - 1) _ (by omega) (List.getElem?_eq_getElem (by omega))
        unfold okN at this
        rw [Bool.and_eq_true, decide_eq_true_eq] at this
        omega
    generalize hRK : (roundK _ _ _ k : Exit → Tm → Hp → Prop) = RK
    show oC _ _ _ _ _ _ _ (parT 38 _ _ [.int .i64 (q.1 : Nat), q.2.v]) _
    dsimp only
    simp only [push_cast, seval, reduceCtorEq, hb2, hb3, qall, q3, Iv.len, qv]
    intro b5 hb5
    simp only [push_cast, seval, reduceCtorEq, hb2, hb3, hb5, wrap_i64' (show -9223372036854775808 ≤ (k : Int) + 1 ∧ (k : Int) + 1 ≤ 9223372036854775807 by omega)]
    refine regO gN3_ok ?_
    obtain ⟨p2, c2, hs2, -⟩ := id qok.li
    have qc : q.2.cells = [.bool q.2.list, .string (bs q.2.bytes), .slice p2 q.2.kids.length c2] := by rw [← hs2]; rfl
    have e1 : ByteArray.toList { data := #[] } = [] := bs_toList []
    have stop : ∀ T, okN k q = false → RK .ret T ([⟨b5, 0, .cel 29, q.2.cells⟩, ⟨b3, 0, .cel 3, [.int .i64 ((k : Int) + 1)]⟩, ⟨b2, 0, .cel 4, [.bool false]⟩]) := fun T h => by
      rw [← hRK]
      refine ⟨(k + 1, false), ⟨rfl, rfl, by rw [hR]; exact right_not hq h⟩, ?_⟩
      exact subH_cons (by simp only [push_cast, seval, reduceCtorEq, hb5])
    have next : ∀ T, okN k q = true → RK .normal T ([⟨b5, 0, .cel 29, q.2.cells⟩, ⟨b3, 0, .cel 3, [.int .i64 ((k : Int) + 1)]⟩, ⟨b2, 0, .cel 4, [.bool false]⟩]) := fun T h => by
      rw [← hRK]
      refine ⟨(k + 1, false), ⟨rfl, fun j p hj hp => ?_⟩, ?_⟩
      · by_cases hjk : j = k
        · subst hjk; rw [hq] at hp; cases hp; exact h
        · exact hok j p (by omega) hp
      · exact subH_cons (by simp only [push_cast, seval, reduceCtorEq, hb5])
    have hw := wfI_it q.2
    have un : okN k q = (decide (k + 1 ≤ 5000) && (decide (q.1 ≤ 16) && wfI q.2.it)) := rfl
    rw [hw] at un
    by_cases h1 : 5000 < k + 1
    · have c1 : (5000 : Int) < (k : Int) + 1 := by omega
      have hbad : okN k q = false := by rw [un, decide_eq_false (by omega)]; rfl
      simp only [push_cast, seval, reduceCtorEq, hb2, hb3, hb5, c1]
      exact stop _ hbad
    have c1 : ¬ (5000 : Int) < (k : Int) + 1 := by omega
    rw [decide_eq_true (show k + 1 ≤ 5000 by omega), Bool.true_and] at un
    by_cases h2 : 16 < q.1
    · have c2 : (16 : Int) < (q.1 : Int) := by omega
      have hbad : okN k q = false := by rw [un, decide_eq_false (by omega)]; rfl
      simp only [push_cast, seval, reduceCtorEq, hb2, hb3, hb5, c1, c2]
      exact stop _ hbad
    have c2 : ¬ (16 : Int) < (q.1 : Int) := by omega
    rw [decide_eq_true (show q.1 ≤ 16 by omega), Bool.true_and] at un
    cases hl : q.2.list with
    | true =>
      rw [hl, if_pos rfl] at un
      rw [hl] at qc
      by_cases hbs : q.2.bytes = []
      · have e2 : (q.2.bytes == []) = true := by rw [hbs]; rfl
        simp only [push_cast, seval, reduceCtorEq, hb2, hb3, hb5, c1, c2, qc, e1, e2]
        rw [← qc]
        exact next _ (by rw [un, hbs]; rfl)
      · have e2 : (q.2.bytes == []) = false := by simpa using hbs
        simp only [push_cast, seval, reduceCtorEq, hb2, hb3, hb5, c1, c2, qc, e1, e2]
        rw [← qc]
        exact stop _ (by rw [un]; simpa [List.isEmpty_iff] using hbs)
    | false =>
      rw [hl, if_neg (by decide)] at un
      rw [hl] at qc
      by_cases hks : q.2.kids = []
      · have e2 : ¬ 0 < q.2.kids.length := by rw [hks]; decide
        simp only [push_cast, seval, reduceCtorEq, hb2, hb3, hb5, c1, c2, qc, e1, e2]
        rw [← qc]
        exact next _ (by rw [un, hks]; rfl)
      · have e2 : 0 < q.2.kids.length := List.length_pos_iff.2 hks
        simp only [push_cast, seval, reduceCtorEq, hb2, hb3, hb5, c1, c2, qc, e1, e2]
        rw [← qc]
        exact stop _ (by rw [un]; simpa [List.isEmpty_iff] using hks)
  · rintro D s hfD ⟨rfl, hok⟩
    simp only [push_cast, seval, reduceCtorEq] at hfD
    have hl : (allA x 1).length = (allV x 1).length := by unfold allA; rw [List.length_map]
    have hRt : R = true := by rw [hR]; exact right_all fun j p hp => hok j p (by rw [hl]; exact (List.getElem?_eq_some_iff.1 hp).1) hp
    simp only [push_cast, seval, reduceCtorEq, hb2, hb3, hfD, hRt]
  · rintro D cd s hfD ⟨rfl, h1, h2⟩
    simp only [push_cast, seval, reduceCtorEq] at hfD
    obtain ⟨s1, s2⟩ := s
    dsimp only at h1
    subst h1
    simp only [push_cast, seval, reduceCtorEq, hb2, hb3, hfD, h2]
end Go.Proofs.YtolmipnaheifcaaDoor
set_option linter.unusedSimpArgs false
set_option linter.unusedVariables false
namespace Go.Ev
noncomputable def sameI (x y : It) : Bool := @decide (x = y) (Classical.propDecidable _)
noncomputable def samesI (x y : List It) : Bool := @decide (x = y) (Classical.propDecidable _)
theorem sameI_t {x y : It} (h : x = y) : sameI x y = true := by unfold sameI; exact @decide_eq_true _ (Classical.propDecidable _) h
theorem sameI_f {x y : It} (h : ¬ x = y) : sameI x y = false := by unfold sameI; exact @decide_eq_false _ (Classical.propDecidable _) h
theorem samesI_t {x y : List It} (h : x = y) : samesI x y = true := by unfold samesI; exact @decide_eq_true _ (Classical.propDecidable _) h
theorem samesI_f {x y : List It} (h : ¬ x = y) : samesI x y = false := by unfold samesI; exact @decide_eq_false _ (Classical.propDecidable _) h
theorem sameI_eq (x y : It) : sameI x y = (x.list == y.list && (x.bytes == y.bytes && samesI x.kids y.kids)) := by
  obtain ⟨l, b, k⟩ := x
  obtain ⟨l', b', k'⟩ := y
  show _ = (l == l' && (b == b' && samesI k k'))
  by_cases h1 : l = l'
  case neg => rw [sameI_f (fun h => by injection h with h; exact h1 h), beq_eq_false_iff_ne.2 h1, Bool.false_and]
  by_cases h2 : b = b'
  case neg => rw [sameI_f (fun h => by injection h with _ h; exact h2 h), beq_eq_false_iff_ne.2 h2, Bool.false_and, Bool.and_false]
  rw [h1, h2, beq_self_eq_true, beq_self_eq_true, Bool.true_and, Bool.true_and]
  rcases Classical.em (k = k') with h3 | h3
  · rw [samesI_t h3, sameI_t (by rw [h3])]
  · rw [samesI_f h3, sameI_f (fun h => by injection h with _ _ h; exact h3 h)]
noncomputable def encD (x : It) : List UInt8 × Int := if rightI x = true then (if (encL x).length ≤ 1048576 then (encL x, 0) else ([], 2)) else ([], 1)
def noZ (b : List UInt8) : Bool := b.headD 1 == 0
noncomputable def valP (l : Bool) (b : List UInt8) (n : Nat) : W × Bool :=
  if l = true ∨ 0 < n ∨ 32 < b.length ∨ noZ b = true then (W.zero, false) else (frombW b, true)
noncomputable def rvalG : List Value → Option Value
  | [.agg ⟨[.bool l, .string b, .slice p n c]⟩] => if n ≤ 1099511627776 ∧ b.size ≤ 1099511627776 then some (.tuple #[(valP l b.data.toList n).1.v, .bool (valP l b.data.toList n).2]) else none
  | _ => none
noncomputable def hasZG : List Value → Option Value
  | [.string s, .string t] => if t.data.toList = [0] then some (.bool (noZ s.data.toList)) else none
  | _ => none
attribute [push_cast] rvalG hasZG
end Go.Ev
namespace Go.Proofs.YtolmipnaheifcaaDoor
open Go Go.Ev Go.Proofs
set_option maxRecDepth 100000
set_option maxHeartbeats 4000000
theorem hasZ0_ok (l : List UInt8) : CallsV Tryd.prog 53 [.string (bs l), .string (bs [0])] [] (Ret0 (.bool (noZ l))) := by
  have e0 : (bs [0]).toList = [0] := bs_toList _
  have e2 : ([0] : List UInt8).length = 1 := rfl
  refine callsO gO2_ok Tryd.mix Tryd.pl53 Tryd.func53 rfl Tryd.ntmps53 Tryd.results53 rfl (by first | rfl | assumption) (Nat.le_of_ble_eq_true rfl) (by kernel_rfl) ?_
  cases l with
  | nil =>
    have d1 : ¬ (1 : Int) ≤ 0 := by decide
    have d2 : ([] : List UInt8).length = 0 := rfl
    have d3 : noZ [] = false := rfl
    simp only [push_cast, seval, reduceCtorEq, e2, d1, d2, d3]
  | cons y r =>
    obtain ⟨z, hz⟩ : ∃ z, z = y :: r := ⟨_, rfl⟩
    have zl : z.length = r.length + 1 := by rw [hz]; rfl
    have c2 : 1 ≤ z.length := by omega
    have c4 : (1 : Int) ≤ (z.length : Int) := by omega
    have tk : List.take 1 z = [y] := by rw [hz]; rfl
    have nz : noZ z = (y == 0) := by rw [hz]; rfl
    have e5 : (([y] : List UInt8) == [0]) = (y == 0) := by simp
    rw [← hz]
    simp only [push_cast, seval, reduceCtorEq, e0, e2, c2, c4, tk, nz, e5]
theorem hasZ1_ok (l : List UInt8) : CallsV Tryd.prog 31 [.string (bs l), .string (bs [0])] [] (Ret0 (.bool (noZ l))) := by
  refine callsO gO2_ok Tryd.mix Tryd.pl31 Tryd.func31 rfl Tryd.ntmps31 Tryd.results31 rfl (by first | rfl | assumption) (Nat.le_of_ble_eq_true rfl) (by kernel_rfl) ?_
  simp only [push_cast, seval, reduceCtorEq]
  refine (hasZ0_ok l).pure trivial ?_
  simp only [push_cast, seval, reduceCtorEq]
theorem hasZG_ok (args : List Value) (v : Value) (h : hasZG args = some v) : CallsV Tryd.prog 31 args [] (Ret0 v) := by
  unfold hasZG at h
  split at h
  · split at h
    · rename_i s t ht
      cases h
      obtain ⟨l, rfl⟩ := bs_of s
      obtain ⟨m, rfl⟩ := bs_of t
      rw [bs_data] at ht
      rw [ht, bs_data]
      exact hasZ1_ok l
    · cases h
  · cases h
noncomputable def gO3 : Gam := (addG 31 hasZG gO2)
attribute [push_cast] gO3
theorem gO3_ok : GamOk Tryd.prog gO3 := (addG_ok hasZG_ok gO2_ok)
attribute [push_cast] gO3
theorem rval_ok (l : Bool) (b : List UInt8) (p : Option Addr) (n c : Nat) (hn : n ≤ 1099511627776) (hb : b.length ≤ 1099511627776) : CallsV Tryd.prog 16 [.agg #[.bool l, .string (bs b), .slice p n c]] [] (Ret0 (.tuple #[(valP l b n).1.v, .bool (valP l b n).2])) := by
  obtain ⟨R, hR⟩ : ∃ R, R = valP l b n := ⟨_, rfl⟩
  rw [← hR]
  unfold valP at hR
  have e0 : (bs [0]).data.toList = [0] := bs_data _
  refine callsO gO3_ok Tryd.mix (fun i => if i = 1 then [(0, 9)] else Tryd.pl16 i) Tryd.func16 rfl Tryd.ntmps16 Tryd.results16 rfl (by first | rfl | assumption) (Nat.le_of_ble_eq_true rfl) (by kernel_rfl) ?_
  simp only [push_cast, seval, reduceCtorEq]
  intro b1 b2 hb2
  refine regO gO3_ok ?_
  have z4 : (W.zero.v) = .agg W.zero.cells.toArray := rfl
  cases l with
  | true =>
    rw [if_pos (.inl rfl)] at hR
    simp only [push_cast, seval, reduceCtorEq, hb2]
    rw [hR]
  | false =>
    by_cases c1 : 0 < n
    · have d1 : (0 : Int) < (n : Int) := by omega
      rw [if_pos (.inr (.inl c1))] at hR
      simp only [push_cast, seval, reduceCtorEq, hb2, d1]
      rw [hR]
    have d1 : ¬ (0 : Int) < (n : Int) := by omega
    by_cases c2 : 32 < b.length
    · have d2 : (32 : Int) < (b.length : Int) := by omega
      rw [if_pos (.inr (.inr (.inl c2)))] at hR
      simp only [push_cast, seval, reduceCtorEq, hb2, d1, d2]
      rw [hR]
    have d2 : ¬ (32 : Int) < (b.length : Int) := by omega
    cases hz : noZ b with
    | true =>
      rw [if_pos (.inr (.inr (.inr hz)))] at hR
      simp only [push_cast, seval, reduceCtorEq, hb2, d1, d2, e0, hz]
      rw [hR]
    | false =>
      rw [if_neg (by rw [hz]; rintro (h | h | h | h) <;> first | omega | cases h)] at hR
      have hsz : szB b.length = true := szB_in (by omega)
      simp only [push_cast, seval, reduceCtorEq, hb2, d1, d2, e0, hz, hsz]
      rw [hR]
theorem rvalG_ok (args : List Value) (v : Value) (h : rvalG args = some v) : CallsV Tryd.prog 16 args [] (Ret0 v) := by
  unfold rvalG at h
  split at h
  · split at h
    · rename_i l b p n c hn
      cases h
      obtain ⟨m, rfl⟩ := bs_of b
      rw [bs_data]
      exact rval_ok l m p n c hn.1 hn.2
    · cases h
  · cases h
theorem iteqF_ok {M : Hp} {ks ls : List Iv} {v u : Value} (hv : LiR Iv.cells 3 M ks v) (hu : LiR Iv.cells 3 M ls u) (hm : marksOf M = []) (hn : ks.length ≤ 1099511627776) (hn2 : ls.length ≤ 1099511627776) (o1 : ∀ k ∈ ks, oneC k.sv = true) (o2 : ∀ k ∈ ls, oneC k.sv = true)
    (hc : ∀ k ∈ ks, ∀ l ∈ ls, ∀ M1, roM M1 → cellsAt M1 = cellsAt M → CallsV Tryd.prog 18 [k.v, l.v] M1 (Ret0 (.bool (sameI k.it l.it)))) :
    CallsV Tryd.prog 33 [v, u, .func (.func 18) #[] #[]] M (Ret0 (.bool (samesI (ks.map Iv.it) (ls.map Iv.it)))) := by
  obtain ⟨p, k, rfl, hla⟩ := hv.openC Iv.len (by decide)
  obtain ⟨q, n, rfl, hra⟩ := hu.openC Iv.len (by decide)
  refine callsO gO3_ok Tryd.mix Tryd.pl33 Tryd.func33 rfl Tryd.ntmps33 Tryd.results33 rfl (by first | rfl | assumption) (Nat.le_of_ble_eq_true rfl) (by kernel_rfl) ?_
  by_cases hl : ks.length = ls.length
  case neg =>
    have e : samesI (ks.map Iv.it) (ls.map Iv.it) = false := samesI_f fun h => hl (by have := congrArg List.length h; rwa [List.length_map, List.length_map] at this)
    have e1 : (((ks.length : Nat) : Int) != ((ls.length : Nat) : Int)) = true := by rw [bne_iff_ne]; omega
    simp only [push_cast, seval, reduceCtorEq, e, e1]
  have e1 : (((ks.length : Nat) : Int) != ((ls.length : Nat) : Int)) = false := by rw [hl]; exact bne_self_eq_false _
  simp only [push_cast, seval, reduceCtorEq, e1]
  refine loopO gO3_ok (pl := Tryd.pl33) Tryd.mix (X := Nat)
    (fun i => ([(0, .slice p ks.length k), (1, .slice q ls.length n), (15, .slice p ks.length k), (16, .int .i64 ks.length), (2, .func (.func 18) #[] #[]), (17, .int .i64 i)], M))
    (fun i => i ≤ ks.length ∧ (ks.take i).map Iv.it = (ls.take i).map Iv.it) (fun i => ks.length - i) 0 ?_ ?_ (by kernel_rfl) ?_
  · exact ⟨Nat.zero_le _, rfl⟩
  · simp only [push_cast, seval, reduceCtorEq]
  · rintro i ⟨hi, ht⟩
    dsimp only at hi ht ⊢
    rcases Nat.lt_or_ge i ks.length with hlt | hge
    · obtain ⟨x, hx⟩ : ∃ x, ks[i]? = some x := ⟨ks[i], List.getElem?_eq_getElem hlt⟩
      obtain ⟨y, hy⟩ : ∃ y, ls[i]? = some y := ⟨ls[i]'(by omega), List.getElem?_eq_getElem (by omega)⟩
      rcases hla with rfl | ⟨b, f, d, kd, cs, rfl, he, hat⟩
      · simp at hx
      rcases hra with rfl | ⟨b', f', d', kd', cs', rfl, he', hat'⟩
      · simp at hy
      have hxm := List.mem_of_getElem? hx
      have hym := List.mem_of_getElem? hy
      obtain ⟨a1, a2⟩ := hat i x hx
      obtain ⟨b1, b2⟩ := hat' i y hy
      have a0 : x.cells.all oneC = true := Iv.all1 (o1 x hxm)
      have b0 : y.cells.all oneC = true := Iv.all1 (o2 y hym)
      have x3 : List.take 3 x.cells = x.cells := rfl
      have y3 : List.take 3 y.cells = y.cells := rfl
      have xv : Value.agg x.cells.toArray = x.v := rfl
      have yv : Value.agg y.cells.toArray = y.v := rfl
      have i1 : (i : Int) < (ks.length : Int) := by omega
      have i2 : (i : Int) < (ls.length : Int) := by omega
      have i3 : i < ls.length := by omega
      simp only [push_cast, seval, reduceCtorEq, i1, i2, i3, hlt, he, a1, a2, a0, Iv.len, x3]
      intro b8 hb8
      have d1 := (fresh_findS hb8 he').2
      try simp only [push_cast, seval, reduceCtorEq, i1, i2, i3, hlt, he, he', a1, a2, b1, b2, d1, hb8, a0, b0, Iv.len, x3, y3]
      intro b9 hb9
      try simp only [push_cast, seval, reduceCtorEq, hb8, hb9, a0, b0, Iv.len, x3, y3, xv, yv]
      refine useP [_, _] (fun M1 hr1 he1 => hc x hxm y hym M1 hr1 he1) ⟨hb9.2.2, hb8, trivial⟩ ?_
      by_cases hxy : x.it = y.it
      · simp only [push_cast, seval, reduceCtorEq, sameI_t hxy, wrap_i64' (show -9223372036854775808 ≤ (i : Int) + 1 ∧ (i : Int) + 1 ≤ 9223372036854775807 by omega)]
        refine ⟨i + 1, ⟨hlt, ?_⟩, by omega, rfl, ?_⟩
        · rw [List.take_add_one, List.take_add_one, hx, hy, List.map_append, List.map_append, ht]
          simp [hxy]
        · exact subH_skip6 hb9.2.2 (subH_skip6 hb8 (subH_self _))
      · have e : samesI (ks.map Iv.it) (ls.map Iv.it) = false := samesI_f fun h => hxy (by
          have h1 : (ks.map Iv.it)[i]? = some x.it := by rw [List.getElem?_map, hx]; rfl
          have h2 : (ls.map Iv.it)[i]? = some y.it := by rw [List.getElem?_map, hy]; rfl
          rw [h, h2] at h1
          exact (Option.some.inj h1).symm)
        simp only [push_cast, seval, reduceCtorEq, sameI_f hxy, e]
    · obtain rfl : i = ks.length := by omega
      have e : samesI (ks.map Iv.it) (ls.map Iv.it) = true := samesI_t (by
        rw [List.take_length, hl, List.take_length] at ht; exact ht)
      simp only [push_cast, seval, reduceCtorEq, Nat.lt_irrefl, Int.lt_irrefl, e]
theorem rsame_ok (x : Iv) : ∀ (y : Iv) (M0 : Hp), roM M0 → IvOk M0 x → IvOk M0 y → CallsV Tryd.prog 18 [x.v, y.v] M0 (Ret0 (.bool (sameI x.it y.it))) := by
  induction x using Iv.ind with
  | h x ih =>
    intro y M0 hr hx hy
    have hm := hr.marks
    have e := sameI_eq x.it y.it
    rw [Iv.it_list, Iv.it_list, Iv.it_bytes, Iv.it_bytes, Iv.it_kids, Iv.it_kids] at e
    have hlx := hx.li
    have hly := hy.li
    have hc : ∀ k ∈ x.kids, ∀ l ∈ y.kids, ∀ M1, roM M1 → cellsAt M1 = cellsAt M0 → CallsV Tryd.prog 18 [k.v, l.v] M1 (Ret0 (.bool (sameI k.it l.it))) := fun k hk l hl M1 hr1 he1 => ih k hk l M1 hr1 ((hx.kid k hk).congr he1.symm) ((hy.kid l hl).congr he1.symm)
    have o1 : ∀ k ∈ x.kids, oneC k.sv = true := fun k hk => (hx.kid k hk).one
    have o2 : ∀ k ∈ y.kids, oneC k.sv = true := fun k hk => (hy.kid k hk).one
    have nx := hx.len
    have ny := hy.len
    obtain ⟨xl, xb, xs, xk⟩ := x
    obtain ⟨yl, yb, ys, yk⟩ := y
    replace hlx : LiR Iv.cells 3 M0 xk xs := hlx
    replace hly : LiR Iv.cells 3 M0 yk ys := hly
    obtain ⟨p, c, rfl, -⟩ := id hlx
    obtain ⟨p', c', rfl, -⟩ := id hly
    show CallsV Tryd.prog 18 [.agg #[.bool xl, .string (bs xb), .slice p xk.length c], .agg #[.bool yl, .string (bs yb), .slice p' yk.length c']] M0 _
    replace e : sameI (Iv.mk xl xb (.slice p xk.length c) xk).it (Iv.mk yl yb (.slice p' yk.length c') yk).it = (xl == yl && (xb == yb && samesI (xk.map Iv.it) (yk.map Iv.it))) := e
    rw [e]
    refine callsO gO3_ok Tryd.mix (fun i => if i = 1 then [(0, 9)] else Tryd.pl18 i) Tryd.func18 rfl Tryd.ntmps18 Tryd.results18 rfl (by first | rfl | assumption) (Nat.le_of_ble_eq_true rfl) (by kernel_rfl) ?_
    simp only [push_cast, seval, reduceCtorEq]
    intro b2 hb2 b3 hb3
    refine regO gO3_ok ?_
    by_cases c1 : xl = yl
    case neg =>
      have d1 : (xl == yl) = false := beq_eq_false_iff_ne.2 c1
      simp only [push_cast, seval, reduceCtorEq, hb3, d1]
    have d1 : (xl == yl) = true := by rw [c1]; exact beq_self_eq_true _
    by_cases c2 : xb = yb
    case neg =>
      have d2 : (xb == yb) = false := beq_eq_false_iff_ne.2 c2
      simp only [push_cast, seval, reduceCtorEq, hb3, d1, d2]
    have d2 : (xb == yb) = true := by rw [c2]; exact beq_self_eq_true _
    simp only [push_cast, seval, reduceCtorEq, hb3, d1, d2]
    refine useP [_, _] (fun M1 hr1 he1 => iteqF_ok (hlx.congr he1.symm) (hly.congr he1.symm) hr1.marks nx ny o1 o2 fun k hk l hl M2 hr2 he2 => hc k hk l hl M2 hr2 (he2.trans he1)) ⟨hb3.2.2, hb2, trivial⟩ ?_
    simp only [push_cast, seval, reduceCtorEq]
theorem rsame_R {M : Hp} {x y : Iv} (hx : IvOk M x) (hy : IvOk M y) : ∀ M0, roM M0 → cellsAt M0 = cellsAt M → CallsV Tryd.prog 18 [x.v, y.v] M0 (Ret0 (.bool (sameI x.it y.it))) := fun M0 hr he => rsame_ok x y M0 hr (hx.congr he.symm) (hy.congr he.symm)
theorem rright_R {M : Hp} {x : Iv} (hx : IvOk M x) : ∀ M0, roM M0 → cellsAt M0 = cellsAt M → CallsV Tryd.prog 14 [x.v] M0 (Ret0 (.bool (rightI x.it))) := fun M0 hr he => rright_ok hr (hx.congr he.symm)
theorem renc_R {M : Hp} {x : Iv} (hx : IvOk M x) (hl : (encL x.it).length ≤ 1099511627776) : ∀ M0, roM M0 → cellsAt M0 = cellsAt M → CallsV Tryd.prog 13 [x.v] M0 (Ret0 (.tuple #[.string (bs (encD x.it).1), .int .i64 (encD x.it).2])) := by
  intro M0 hr he
  have hx0 := hx.congr he.symm
  have hm := hr.marks
  have il : x.cells.length = 3 := rfl
  have it3 : List.take 3 x.cells = x.cells := List.take_of_length_le (Nat.le_of_eq rfl)
  have xv : x.v.cells.toList = x.cells := rfl
  have xall : x.cells.all oneC = true := Iv.all1 hx0.one
  refine callsO gO3_ok Tryd.mix Tryd.pl13 Tryd.func13 rfl Tryd.ntmps13 Tryd.results13 rfl (by first | rfl | assumption) (Nat.le_of_ble_eq_true rfl) (by kernel_rfl) ?_
  simp only [push_cast, seval, reduceCtorEq, xv, xall, il]
  intro b1 hb1
  try simp only [push_cast, seval, reduceCtorEq, il, it3]
  refine useP [_] (v := .bool (rightI x.it)) (fun M1 hr1 he1 => rright_ok hr1 (hx0.congr he1.symm)) ⟨hb1, trivial⟩ ?_
  cases hri : rightI x.it with
  | false =>
    simp only [push_cast, seval, reduceCtorEq, il, it3]
    unfold encD
    rw [hri]
    rfl
  | true =>
    simp only [push_cast, seval, reduceCtorEq, il, it3]
    refine useP [_] (fun M1 hr1 he1 => encode_ok x M1 hr1 (hx0.congr he1.symm) hl) ⟨hb1, trivial⟩ ?_
    have hz : (bs (encL x.it)).size = (encL x.it).length := rfl
    rcases Nat.lt_or_ge 1048576 (encL x.it).length with h | h
    · have h' : (1048576 : Int) < ((encL x.it).length : Int) := by omega
      simp only [push_cast, seval, reduceCtorEq, hz, h']
      unfold encD
      rw [hri, if_pos rfl, if_neg (by omega)]
      rfl
    · have h' : ¬ (1048576 : Int) < ((encL x.it).length : Int) := by omega
      simp only [push_cast, seval, reduceCtorEq, hz, h']
      unfold encD
      rw [hri, if_pos rfl, if_pos h]
end Go.Proofs.YtolmipnaheifcaaDoor
set_option linter.unusedSimpArgs false
set_option linter.unusedVariables false
namespace Go.Ev
theorem takeP6 {P : Program} {g : FuncId} {args : List Value} (L : Hp) {M : Hp} {v : Value} {K : Value → Prop} (hc : ∀ M0, roM M0 → cellsAt M0 = cellsAt M → CallsV P g args M0 (Ret0 v)) (hL : freshN L M) (hk : K v) : TakeV P g args (L ++ M) K := TakeV.mk (derE_behind hL) (hc (roAll M) (roAll_ro M) (cellsAt_roAll M)) hk
theorem frombL_num (w : W) : frombW (numL w) = w := by
  refine W.num_inj ?_
  have hl := numL_len w
  rw [frombW_eq, List.take_of_length_le (by rw [List.length_reverse]; omega), W.num_of]
  have h := numL_num w
  unfold numN at h
  rw [h]
  exact Nat.mod_eq_of_lt (W.num_lt w)
theorem noZ_num (w : W) : noZ (numL w) = false := by
  unfold noZ
  exact beq_eq_false_iff_ne.2 (numL_head w)
theorem valP_num (w : W) : valP false (numL w) 0 = (w, true) := by
  unfold valP
  rw [if_neg (by rw [noZ_num]; have := numL_len w; rintro (h | h | h | h) <;> first | omega | cases h), frombL_num]
theorem valP_list (b : List UInt8) (n : Nat) : valP true b n = (W.zero, false) := by unfold valP; rw [if_pos (.inl rfl)]
theorem IvOk.opn {M : Hp} {y : Iv} (h : IvOk M y) : ∃ l b p n c, y.v = .agg #[.bool l, .string b, .slice p n c] := by
  obtain ⟨p, c, hs, -⟩ := h.li
  exact ⟨y.list, bs y.bytes, p, _, c, by rw [← hs]; rfl⟩
def catI : It := .mk true [] [.mk false [99, 97, 116] [], .mk false [100, 111, 103] []]
theorem catI_enc : encL catI = [200, 131, 99, 97, 116, 131, 100, 111, 103] := by
  have h1 : headL 192 8 = [200] := headL_le (by decide)
  have h2 : headL 128 3 = [131] := headL_le (by decide)
  have t1 : textL [99, 97, 116] = [131, 99, 97, 116] := by rw [textL_as (by decide), show ([99, 97, 116] : List UInt8).length = 3 from rfl, h2]; rfl
  have t2 : textL [100, 111, 103] = [131, 100, 111, 103] := by rw [textL_as (by decide), show ([100, 111, 103] : List UInt8).length = 3 from rfl, h2]; rfl
  have e : encLs [.mk false [99, 97, 116] [], .mk false [100, 111, 103] []] = [131, 99, 97, 116, 131, 100, 111, 103] := by rw [encLs, encLs, encLs, encL, encL, t1, t2]; rfl
  unfold catI
  rw [encL, e, show ([131, 99, 97, 116, 131, 100, 111, 103] : List UInt8).length = 8 from rfl, h1]; rfl
theorem catI_right : rightI catI = true := by
  rw [rightI_eq]; rfl
theorem catI_encD : encD catI = ([200, 131, 99, 97, 116, 131, 100, 111, 103], 0) := by
  unfold encD
  rw [if_pos catI_right, catI_enc, if_pos (by decide)]
theorem catI_dec : decD [200, 131, 99, 97, 116, 131, 100, 111, 103] = (catI, 0, 0) := by
  rw [← catI_enc]
  exact decD_back catI_right (by rw [catI_enc]; decide)
theorem dec_form : decD [129, 5] = (noI, 11, 0) := by rfl
theorem dec_short : decD [193] = (noI, 10, 0) := by rfl
theorem dec_more : decD [5, 6] = (noI, 12, 1) := by rfl
theorem num1024 : numL (W.ofInt 1024) = [4, 0] := by
  refine numN_inj (numL_head _) (by decide) ?_
  rw [numL_num, show (1024 : Int) = ((1024 : Nat) : Int) from rfl, W.ofInt_num 1024 (by decide)]
  rfl
theorem oddI_right : rightI (.mk true [97] []) = false := by rw [rightI_eq]; rfl
end Go.Ev
namespace Go.Proofs.YtolmipnaheifcaaDoor
open Go Go.Ev Go.Proofs
set_option maxRecDepth 100000
set_option maxHeartbeats 4000000
theorem refOfNG (args : List Value) (v : Value) (h : ofNG args = some v) : CallsV Tryd.prog 21 args [] (Ret0 v) := by
  unfold ofNG at h
  split at h
  · split at h
    · rename_i n hn; cases h; exact refOf n hn
    · cases h
  · cases h
noncomputable def gO4 : Gam := (addG 21 ofNG (addG 16 rvalG gO3))
attribute [push_cast] gO4
theorem gO4_ok : GamOk Tryd.prog gO4 := (addG_ok refOfNG (addG_ok rvalG_ok gO3_ok))
attribute [push_cast] gO4
def plAW : Plans := fun i => if i = 9 then [] else Tryd.pl8 i
attribute [push_cast] plAW
theorem awk06_ok {M : Hp} (hk : ErrR M) (hm : marksOf M = []) : CallsV Tryd.prog 8 [] M (Ret0 (.bool true)) := by
  refine callsO gO4_ok Tryd.mix plAW Tryd.func8 rfl Tryd.ntmps8 Tryd.results8 rfl (by first | rfl | assumption) (Nat.le_of_ble_eq_true rfl) (by kernel_rfl) ?_
  simp only [push_cast, seval, reduceCtorEq]
  intro b hb b1 hb1
  obtain ⟨M1, hM1⟩ : ∃ M1 : Hp, M1 = ⟨b, 0, .vec 29 3 2, [.bool false, .string { data := #[99, 97, 116] }, .slice none 0 0, .bool false, .string { data := #[100, 111, 103] }, .slice none 0 0]⟩ :: M := ⟨_, rfl⟩
  obtain ⟨X, hX⟩ : ∃ X, X = Iv.mk true [] (.slice (some ⟨b, 0, none⟩) 2 2) [.mk false [99, 97, 116] (.slice none 0 0) [], .mk false [100, 111, 103] (.slice none 0 0) []] := ⟨_, rfl⟩
  have hXi : X.it = catI := by rw [hX]; simp only [Iv.it, Iv.its]; rfl
  have hXv : Value.agg #[.bool true, .string (bs []), .slice (some ⟨b, 0, none⟩) 2 2] = X.v := by rw [hX]; rfl
  have hm1 : marksOf M1 = [] := by rw [hM1]; simp [marksOf, hm]
  have hX1 : IvOk M1 X := by
    rw [hX, hM1]
    refine .mk _ ⟨_, 2, rfl, .inr ⟨b, 0, rfl, ?_⟩⟩ (show 2 ≤ 1099511627776 by decide) fun k hk => ?_
    · unfold cellsAt
      simp only [findE, if_true]
      rfl
    · replace hk : k ∈ [Iv.mk false [99, 97, 116] (.slice none 0 0) [], .mk false [100, 111, 103] (.slice none 0 0) []] := hk
      rcases List.mem_cons.1 hk with rfl | hk
      · exact IvOk.text _ _ _ _
      · rw [List.mem_singleton.1 hk]; exact IvOk.text _ _ _ _
  have hk1 : ErrR M1 := hk.ext (by rw [hM1]; exact Ext.cons hm rfl hb)
  have f1 : fresh b1 M1 := by rw [hM1]; exact hb1
  rw [← hM1, hXv]
  have enc := catI_encD
  refine useP [_] (M := M1) (renc_R hX1 (by rw [hXi, catI_enc]; decide)) ⟨f1, trivial⟩ ?_
  rw [hXi, enc]
  simp only [push_cast, seval, reduceCtorEq]
  refine useL [_] (decode_ok hk1 [200, 131, 99, 97, 116, 131, 100, 111, 103] (by decide)) (DecQ.rd _) hm1 ⟨f1, trivial⟩ fun v M2 hg2 hL2 hq2 => ?_
  obtain ⟨y, e, p, rfl, hd, hy⟩ := hq2
  rw [catI_dec] at hd
  injection hd with hy1 hd
  injection hd with he hp
  subst he hp
  obtain ⟨yl, yb, yp, yn, yc, hyv⟩ := hy.opn
  have hk2 := hk1.ext hg2.ext
  have hX2 := hX1.ext hg2.ext
  have hm2 := hg2.marks
  have f2 := hL2.1
  clear hL2 f1
  simp only [push_cast, seval, reduceCtorEq, hyv]
  intro b4 hb4
  have f4 : fresh b4 M2 := hb4.2.2
  have g4 : ¬ b4 = b1 ∧ ¬ b1 = b4 := ⟨hb4.1, hb4.2.1⟩
  refine useL [_, _] (decode_ok hk2 [129, 5] (by decide)) (DecQ.rd _) hm2 ⟨f4, f2, trivial⟩ fun v M3 hg3 hL3 hq3 => ?_
  obtain ⟨y3, e, p, rfl, hd, hy3⟩ := hq3
  rw [dec_form] at hd
  injection hd with hy31 hd
  injection hd with he hp
  subst he hp
  obtain ⟨yl3, yb3, yp3, yn3, yc3, hyv3⟩ := hy3.opn
  obtain ⟨f4, f1, -⟩ := hL3
  have hk3 := hk2.ext hg3.ext
  have hX3 := hX2.ext hg3.ext
  have hY3 := hy.ext hg3.ext
  have hm3 := hg3.marks
  simp only [push_cast, seval, reduceCtorEq, hyv3, g4]
  intro b7 hb7
  have f7 : fresh b7 M3 := hb7.2.2.2.2
  have g7 : ¬ b7 = b4 ∧ ¬ b4 = b7 ∧ ¬ b7 = b1 ∧ ¬ b1 = b7 := ⟨hb7.1, hb7.2.1, hb7.2.2.1, hb7.2.2.2.1⟩
  refine useL [_, _, _] (decode_ok hk3 [193] (by decide)) (DecQ.rd _) hm3 ⟨f7, f4, f1, trivial⟩ fun v M4 hg4 hL4 hq4 => ?_
  obtain ⟨y4, e, p, rfl, hd, hy4⟩ := hq4
  rw [dec_short] at hd
  injection hd with hy41 hd
  injection hd with he hp
  subst he hp
  obtain ⟨yl4, yb4, yp4, yn4, yc4, hyv4⟩ := hy4.opn
  obtain ⟨f7, f4, f1, -⟩ := hL4
  have hk4 := hk3.ext hg4.ext
  have hX4 := hX3.ext hg4.ext
  have hY4 := hY3.ext hg4.ext
  have hm4 := hg4.marks
  simp only [push_cast, seval, reduceCtorEq, hyv4, g4, g7]
  intro b10 hb10
  have f10 : fresh b10 M4 := hb10.2.2.2.2.2.2
  have g10 : ¬ b10 = b7 ∧ ¬ b7 = b10 ∧ ¬ b10 = b4 ∧ ¬ b4 = b10 ∧ ¬ b10 = b1 ∧ ¬ b1 = b10 := ⟨hb10.1, hb10.2.1, hb10.2.2.1, hb10.2.2.2.1, hb10.2.2.2.2.1, hb10.2.2.2.2.2.1⟩
  refine useL [_, _, _, _] (decode_ok hk4 [5, 6] (by decide)) (DecQ.rd _) hm4 ⟨f10, f7, f4, f1, trivial⟩ fun v M5 hg5 hL5 hq5 => ?_
  obtain ⟨y5, e, p, rfl, hd, hy5⟩ := hq5
  rw [dec_more] at hd
  injection hd with hy51 hd
  injection hd with he hp
  subst he hp
  obtain ⟨yl5, yb5, yp5, yn5, yc5, hyv5⟩ := hy5.opn
  obtain ⟨f10, f7, f4, f1, -⟩ := hL5
  have hX5 := hX4.ext hg5.ext
  have hY5 := hY4.ext hg5.ext
  have hm5 := hg5.marks
  have w0 : (W.zero.v) = .agg W.zero.cells.toArray := rfl
  have bnum : (bs (numL (W.ofInt 1024))).data.toList = numL (W.ofInt 1024) := bs_data _
  have lnum : (numL (W.ofInt 1024)).length ≤ 1099511627776 := by have := numL_len (W.ofInt 1024); omega
  have vnum := valP_num (W.ofInt 1024)
  have vlst := valP_list [] 2
  simp only [push_cast, seval, reduceCtorEq, hyv5, g4, g7, g10, bnum, lnum, vnum]
  intro b13 hb13 b16 hb16
  have f13 : fresh b13 M5 := hb13.2.2.2.2.2.2.2.2
  have g13 : ¬ b13 = b10 ∧ ¬ b10 = b13 ∧ ¬ b13 = b7 ∧ ¬ b7 = b13 ∧ ¬ b13 = b4 ∧ ¬ b4 = b13 ∧ ¬ b13 = b1 ∧ ¬ b1 = b13 := ⟨hb13.1, hb13.2.1, hb13.2.2.1, hb13.2.2.2.1, hb13.2.2.2.2.1, hb13.2.2.2.2.2.1, hb13.2.2.2.2.2.2.1, hb13.2.2.2.2.2.2.2.1⟩
  have f16 : fresh b16 M5 := hb16.2.2.2.2.2.2.2.2.2.2
  have g16 : ¬ b16 = b13 ∧ ¬ b13 = b16 ∧ ¬ b16 = b10 ∧ ¬ b10 = b16 ∧ ¬ b16 = b7 ∧ ¬ b7 = b16 ∧ ¬ b16 = b4 ∧ ¬ b4 = b16 ∧ ¬ b16 = b1 ∧ ¬ b1 = b16 := ⟨hb16.1, hb16.2.1, hb16.2.2.1, hb16.2.2.2.1, hb16.2.2.2.2.1, hb16.2.2.2.2.2.1, hb16.2.2.2.2.2.2.1, hb16.2.2.2.2.2.2.2.1, hb16.2.2.2.2.2.2.2.2.1, hb16.2.2.2.2.2.2.2.2.2.1⟩
  have bnil : (bs ([] : List UInt8)).data.toList = [] := bs_data _
  have l0 : ([] : List UInt8).length ≤ 1099511627776 := by decide
  simp only [push_cast, seval, reduceCtorEq, g4, g7, g10, g13, g16, bnil, l0, vlst]
  intro b18 hb18
  have f18 : fresh b18 M5 := hb18.2.2.2.2.2.2.2.2.2.2.2.2
  have g18 : ¬ b18 = b16 ∧ ¬ b16 = b18 ∧ ¬ b18 = b13 ∧ ¬ b13 = b18 ∧ ¬ b18 = b10 ∧ ¬ b10 = b18 ∧ ¬ b18 = b7 ∧ ¬ b7 = b18 ∧ ¬ b18 = b4 ∧ ¬ b4 = b18 ∧ ¬ b18 = b1 ∧ ¬ b1 = b18 := ⟨hb18.1, hb18.2.1, hb18.2.2.1, hb18.2.2.2.1, hb18.2.2.2.2.1, hb18.2.2.2.2.2.1, hb18.2.2.2.2.2.2.1, hb18.2.2.2.2.2.2.2.1, hb18.2.2.2.2.2.2.2.2.1, hb18.2.2.2.2.2.2.2.2.2.1, hb18.2.2.2.2.2.2.2.2.2.2.1, hb18.2.2.2.2.2.2.2.2.2.2.2.1⟩
  have fL : freshN [⟨b18, 0, .cel 39, W.zero.cells⟩, ⟨b16, 0, .cel 39, (W.ofInt 1024).cells⟩, ⟨b13, 0, .cel 29, [.bool yl5, .string yb5, .slice yp5 yn5 yc5]⟩, ⟨b10, 0, .cel 29, [.bool yl4, .string yb4, .slice yp4 yn4 yc4]⟩, ⟨b7, 0, .cel 29, [.bool yl3, .string yb3, .slice yp3 yn3 yc3]⟩, ⟨b4, 0, .cel 29, [.bool yl, .string yb, .slice yp yn yc]⟩, ⟨b1, 0, .cel 29, [.bool true, .string (bs []), .slice (some ⟨b, 0, none⟩) 2 2]⟩] M5 := ⟨f18, f16, f13, f10, f7, f4, f1, trivial⟩
  refine drawO gO4_ok Tryd.mix (Tryd.pl8 9) (by kernel_rfl) ?_
  have s1 : (bs [200, 131, 99, 97, 116, 131, 100, 111, 103]).toList = [200, 131, 99, 97, 116, 131, 100, 111, 103] := bs_toList _
  have s2 : ByteArray.toList { data := #[200, 131, 99, 97, 116, 131, 100, 111, 103] } = [200, 131, 99, 97, 116, 131, 100, 111, 103] := bs_toList [200, 131, 99, 97, 116, 131, 100, 111, 103]
  simp only [List.append_eq, List.cons_append, List.nil_append]
  simp only [push_cast, seval, reduceCtorEq, g4, g7, g10, g13, g16, g18, s1, s2]
  have hsame : sameI X.it y.it = true := sameI_t (by rw [hXi, hy1])
  refine takeP6 [_, _, _, _, _, _, _] (v := .bool true) (fun MB hr he => by have := rsame_R hX5 hY5 MB hr he; rw [hsame, ← hXv, hyv] at this; exact this) fL ?_
  have weq : binQ Tryd.prog .eql 39 (W.ofInt 1024).v (W.ofInt 1024).v = some (.bool true) := by rw [W.eql _ _ (by kernel_rfl) (by kernel_rfl) (by kernel_rfl), decide_eq_true rfl]
  have wag : Value.agg (W.ofInt 1024).cells.toArray = (W.ofInt 1024).v := rfl
  simp only [push_cast, seval, reduceCtorEq, g4, g7, g10, g13, g16, g18, s1, s2, weq, wag]
  refine takeP6 [_, _, _, _, _, _, _] (v := .bool true) (fun MB hr he => by have := rright_R hX5 MB hr he; rw [hXi, catI_right, ← hXv] at this; exact this) fL ?_
  simp only [push_cast, seval, reduceCtorEq, g4, g7, g10, g13, g16, g18, s1, s2, weq, wag]
  refine takeP6 [_, _, _, _, _, _, _] (v := .bool false) (fun MB hr he => by have := rright_R (IvOk.text MB [97] true 0) MB hr rfl; rw [show (Iv.mk true [97] (.slice none 0 0) []).it = .mk true [97] [] by simp only [Iv.it, Iv.its], oddI_right] at this; exact this) fL ?_
  have n4 : (bs (numL (W.ofInt 1024))).toList = [4, 0] := by rw [bs_toList, num1024]
  have n5 : ByteArray.toList { data := #[4, 0] } = [4, 0] := bs_toList [4, 0]
  simp only [push_cast, seval, reduceCtorEq, g4, g7, g10, g13, g16, g18, s1, s2, weq, wag, n4, n5]
theorem awk06_P {A : Hp} (hk : ErrR A) : ∀ M0, roM M0 → cellsAt M0 = cellsAt A → CallsV Tryd.prog 8 [] M0 (Ret0 (.bool true)) := fun M0 hr he => awk06_ok (hk.congr he.symm) hr.marks
end Go.Proofs.YtolmipnaheifcaaDoor
set_option linter.unusedSimpArgs false
set_option linter.unusedVariables false
namespace Go.Ev
theorem numL_step {y : UInt8} {r : List UInt8} : List.dropWhile (fun b : UInt8 => b == 0) (y :: r) = if y = 0 then List.dropWhile (fun b : UInt8 => b == 0) r else y :: r := by
  rw [List.dropWhile_cons]
  by_cases h : y = 0
  · rw [if_pos (by simp [h]), if_pos h]
  · rw [if_neg (by simp [h]), if_neg h]
def byteI (pre : List UInt8) (n : Nat) : It := .mk false (pre ++ [UInt8.ofNat n]) []
noncomputable def goB (sub : List (Int × Int) → Option It) : Nat → List (Int × Int) → List It
  | 0, _ => []
  | _ + 1, [] => []
  | k + 1, x :: r =>
    if pickN x.1 6 = 0 then .mk false (numL (W.ofInt x.2)) [] :: goB sub k r
    else if pickN x.1 6 = 1 then .mk false (List.replicate (pickN x.2 70) 0) [] :: goB sub k r
    else if pickN x.1 6 = 2 then byteI [] (pickN x.2 256) :: goB sub k r
    else if pickN x.1 6 = 3 then (match sub r with
      | some y => y :: goB sub k (r.drop (pickN x.2 4))
      | none => goB sub k r)
    else if pickN x.1 6 = 4 then .mk true [] [] :: goB sub k r
    else byteI [100, 111, 103] (pickN x.2 256) :: goB sub k r
noncomputable def itemB : Nat → List (Int × Int) → It
  | 0, raw => .mk true [] (goB (fun _ => none) 9 (raw.take 9))
  | d + 1, raw => .mk true [] (goB (fun r => some (itemB d r)) 9 (raw.take 9))
noncomputable def rawSub : Nat → List (Int × Int) → Option It
  | 0 => fun _ => none
  | d + 1 => fun r => some (itemB d r)
theorem itemB_eq (d : Nat) (raw : List (Int × Int)) : itemB d raw = .mk true [] (goB (rawSub d) 9 (raw.take 9)) := by cases d <;> rfl
def prI (x : Int × Int) : List Value := [.int .i64 x.1, .int .i64 x.2]
end Go.Ev
namespace Go.Proofs.YtolmipnaheifcaaDoor
open Go Go.Ev Go.Proofs
set_option maxRecDepth 100000
set_option maxHeartbeats 4000000
noncomputable def gO6 : Gam := (addG 37 wbytesG gO4)
attribute [push_cast] gO6
theorem gO6_ok : GamOk Tryd.prog gO6 := (addG_ok refBytesG gO4_ok)
attribute [push_cast] gO6
theorem refNum6_ok (w : W) : CallsV Tryd.prog 24 [w.v] [] (Ret0 (.agg #[.bool false, .string (bs (numL w)), .slice none 0 0])) := by
  obtain ⟨R, hR⟩ : ∃ R, R = numL w := ⟨_, rfl⟩
  rw [← hR]
  unfold numL at hR
  have wl := wbytes_len w
  obtain ⟨l, hl⟩ : ∃ l, l = wbytes w := ⟨_, rfl⟩
  rw [← hl] at hR wl
  refine callsO gO6_ok Tryd.mix Tryd.pl24 Tryd.func24 rfl Tryd.ntmps24 Tryd.results24 rfl (by first | rfl | assumption) (Nat.le_of_ble_eq_true rfl) (by kernel_rfl) ?_
  simp only [push_cast, seval, reduceCtorEq]
  intro b1 b2 hb2
  simp only [push_cast, seval, reduceCtorEq, hb2, ← hl, bs_mk]
  refine loopO gO6_ok (pl := Tryd.pl24) Tryd.mix (X := List UInt8)
    (fun x => ([(1, .pointer (some ⟨b1, 0, none⟩)), (2, .pointer (some ⟨b2, 0, none⟩)), (3, .string (bs x))], [⟨b2, 0, .cel 29, [.bool false, .string ByteArray.empty, .slice none 0 0]⟩]))
    (fun x => x.dropWhile (fun b : UInt8 => b == 0) = R ∧ x.length ≤ 32) (fun x => x.length) l ?_ ?_ (by kernel_rfl) ?_
  · exact ⟨hR.symm, by omega⟩
  · simp only [push_cast, seval, reduceCtorEq, hb2, bs_mk]
  · rintro x ⟨hx, hlen⟩
    dsimp only at hx hlen ⊢
    have e1 : ByteArray.toList { data := #[] } = [] := bs_toList []
    cases x with
    | nil =>
      have e : R = [] := by rw [← hx]; rfl
      simp only [push_cast, seval, reduceCtorEq, e1, e]
    | cons y r =>
      obtain ⟨z, hz⟩ : ∃ z, z = y :: r := ⟨_, rfl⟩
      have zl : z.length = r.length + 1 := by rw [hz]; rfl
      have c2 : 0 < z.length := by omega
      have c1 : (0 : Int) < (z.length : Int) := by omega
      have c3 : 1 ≤ z.length := by omega
      have c4 : (1 : Int) ≤ (z.length : Int) := by omega
      have b0 : (bs z).data[0]? = some y := by rw [nbs_idx c2]; subst hz; rfl
      have dr : List.take (z.length - 1) (List.drop 1 z) = r := by rw [hz]; show List.take (r.length + 1 - 1) r = r; exact List.take_of_length_le (by omega)
      have ne : (z == []) = false := by rw [hz]; rfl
      rw [numL_step] at hx
      rw [← hz] at hx ⊢
      by_cases hy : y = 0
      · have e : ((y.toNat : Int) == 0) = true := by rw [hy]; rfl
        rw [if_pos hy] at hx
        simp only [push_cast, seval, reduceCtorEq, e1, ne, c1, c2, c3, c4, b0, e, dr]
        exact ⟨r, ⟨hx, by rw [List.length_cons] at hlen; omega⟩, by omega, rfl⟩
      · have e : ((y.toNat : Int) == 0) = false := beq_eq_false_iff_ne.2 fun h => hy (UInt8.toNat_inj.1 (show y.toNat = 0 by omega))
        rw [if_neg hy] at hx
        simp only [push_cast, seval, reduceCtorEq, e1, ne, c1, c2, c3, c4, b0, e]
        rw [hx]
theorem refNum6G_ok (args : List Value) (v : Value) (h : rnumG args = some v) : CallsV Tryd.prog 24 args [] (Ret0 v) := by
  unfold rnumG at h
  split at h
  · rename_i x
    cases hx : wOf x with
    | none => simp [hx] at h
    | some a => simp only [hx, Option.bind_some, Option.some.injEq] at h; rw [wOf_some hx, ← h]; exact refNum6_ok a
  · cases h
noncomputable def gO7 : Gam := (addG 11 pickG (addG 24 rnumG gO6))
attribute [push_cast] gO7
theorem gO7_ok : GamOk Tryd.prog gO7 := (addG_ok pickG_ok (addG_ok refNum6G_ok gO6_ok))
attribute [push_cast] gO7
end Go.Proofs.YtolmipnaheifcaaDoor
