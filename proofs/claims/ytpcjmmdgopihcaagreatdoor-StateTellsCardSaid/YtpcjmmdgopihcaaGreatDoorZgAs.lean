/- Texts of this claim, merged by program: Ng Nh Ni Nj Ih. -/
import Derived.Test.YtpcjmmdgopihcaaGreatDoorZgAr
import Derived.Test.YtpcjmmdgopihcaaGreatDoorZgAl
import Derived.Test.YtpcjmmdgopihcaaGreatDoorZgAg
import Derived.Test.YtpcjmmdgopihcaaGreatDoorZgAh
import Derived.Test.YtpcjmmdgopihcaaGreatDoorZgAo
set_option linter.unusedSimpArgs false
set_option linter.unusedVariables false
set_option maxRecDepth 100000
set_option maxHeartbeats 4000000
namespace Go.Ev
def allA (x : Iv) (d : Nat) : List (List Value) := (allV x d).map fun p => [.int .i64 (p.1 : Nat), p.2.v]
theorem allV_head (x : Iv) (d : Nat) : allV x d = (d, x) :: (if 16 < d then [] else allVs x.kids (d + 1)) := by
 cases x; rw [allV]; rfl
theorem allVs_take (ks : List Iv) (d : Nat) {i : Nat} {k : Iv} (h : ks[i]? = some k) : allVs (ks.take (i + 1)) d = allVs (ks.take i) d ++ allV k d := by
 induction ks generalizing i with
 | nil => simp at h
 | cons y r ih =>
   cases i with
   | zero => simp only [List.getElem?_cons_zero, Option.some.injEq] at h; subst h; simp [allVs]
   | succ i =>
     rw [List.getElem?_cons_succ] at h
     rw [List.take_succ_cons, allVs, ih h, List.take_succ_cons, allVs, List.append_assoc]
theorem allVs_pre (ks : List Iv) (d i : Nat) : ∃ r, allVs ks d = allVs (ks.take i) d ++ r := by
 induction ks generalizing i with
 | nil => exact ⟨[], by simp [allVs]⟩
 | cons y r ih =>
   cases i with
   | zero => exact ⟨_, by rw [List.take_zero]; simp only [allVs]; rfl⟩
   | succ i =>
     obtain ⟨q, hq⟩ := ih i
     exact ⟨q, by rw [allVs, List.take_succ_cons, allVs, hq, List.append_assoc]⟩
theorem allVs_mem {ks : List Iv} {d : Nat} {q : Nat × Iv} : q ∈ allVs ks d → ∃ k ∈ ks, q ∈ allV k d := by
 induction ks with
 | nil => intro h; simp [allVs] at h
 | cons y r ih =>
   intro h
   rw [allVs, List.mem_append] at h
   rcases h with h | h
   · exact ⟨y, by simp, h⟩
   · obtain ⟨k, hk, hq⟩ := ih h; exact ⟨k, by simp [hk], hq⟩
theorem allV_ok {M : Hp} (x : Iv) : ∀ {d : Nat}, IvOk M x → ∀ q ∈ allV x d, IvOk M q.2 := by
 induction x using Iv.ind with
 | h x ih =>
   intro d hx q hq
   rw [allV_head] at hq
   rcases List.mem_cons.1 hq with rfl | hq
   · exact hx
   · split at hq
     · cases hq
     · obtain ⟨k, hk, hq⟩ := allVs_mem hq
       exact ih k hk (hx.kid k hk) q hq
theorem IvOk.one {M : Hp} {x : Iv} (h : IvOk M x) : oneC x.sv = true := by obtain ⟨p, c, he, -⟩ := h.li; rw [he]; rfl
theorem all_at {x k : Iv} {d i j : Nat} {args : List Value} (hd : ¬ 16 < d) (hi : x.kids[i]? = some k) (hj : (allA k (d + 1))[j]? = some args) : (allA x d)[1 + (allVs (x.kids.take i) (d + 1)).length + j]? = some args := by
 have hjl : j < (allV k (d + 1)).length := by
  have := (List.getElem?_eq_some_iff.1 hj).1
  unfold allA at this
  rwa [List.length_map] at this
 obtain ⟨r, hr⟩ := allVs_pre x.kids (d + 1) (i + 1)
 rw [allVs_take x.kids (d + 1) hi] at hr
 unfold allA at hj ⊢
 rw [allV_head, if_neg hd, List.map_cons, show 1 + (allVs (x.kids.take i) (d + 1)).length + j = ((allVs (x.kids.take i) (d + 1)).length + j) + 1 by omega, List.getElem?_cons_succ, hr, List.append_assoc, List.map_append, List.getElem?_append_right (by rw [List.length_map]; omega), List.length_map, Nat.add_sub_cancel_left, List.map_append, List.getElem?_append_left (by rw [List.length_map]; exact hjl)]
 exact hj
theorem all_len {x : Iv} {d : Nat} (hd : ¬ 16 < d) : (allA x d).length = 1 + (allVs x.kids (d + 1)).length := by
 unfold allA
 rw [List.length_map, allV_head, if_neg hd, List.length_cons]; omega
theorem find_ds {q : Nat} {e : Ent} {base X : Hp} (h : findE base q = some e) : ∀ {Ds : List Nat}, freshN (Ds.map mkD) base → findE (Ds.map mkD ++ (base ++ X)) q = some e
 | [], _ => by rw [List.map_nil, List.nil_append]; exact findE_appT h
 | D :: r, hf => by
   have h1 : ¬ q = D := (fresh_findS (b := D) hf.1 h).2
   rw [List.map_cons, List.cons_append, findE, if_neg (show ¬ q = (mkD D).blk from h1)]
   exact find_ds h hf.2
end Go.Ev
namespace Go.Proofs.YtpcjmmdgopihcaaGreatDoor
open Go Go.Ev Go.Proofs
theorem rall_ok (x : Iv) (d : Int) (hs : oneC x.sv = true) : CallsV Tryz.prog 100 [x.v, .int .i64 d] [] (fun v N => ∃ b c, v = .func (.func 121) #[] #[.pointer (some ⟨c, 0, none⟩), .pointer (some ⟨b, 0, none⟩)] ∧ N = [⟨c, 0, .cel 3, [.int .i64 d]⟩, ⟨b, 0, .cel 90, x.cells⟩] ∧ ¬ c = b ∧ ¬ b = c) := by
 have xall : x.cells.all oneC = true := Iv.all1 hs
 have xv : x.v.cells.toList = x.cells := rfl
 refine callsO gN3_ok Tryz.mix Tryz.pl100 Tryz.func100 rfl Tryz.ntmps100 Tryz.results100 rfl (by first | rfl | assumption) (Nat.le_of_ble_eq_true rfl) (by kernel_rfl) ?_
 simp only [push_cast, seval, reduceCtorEq, xv]
 intro b c hc
 try simp only [push_cast, seval, reduceCtorEq, hc]
 exact ⟨[_, _], List.Sublist.refl _, b, c, rfl, rfl, hc.1, hc.2⟩
theorem rall1_ok (x : Iv) : ∀ (d : Nat) (Hc : Hp) (b c : Nat) (kb kc : Kind), (∀ e ∈ Hc, e.kind = .ro) → findE Hc b = some ⟨b, 0, kb, x.cells⟩ → findE Hc c = some ⟨c, 0, kc, [.int .i64 (d : Nat)]⟩ → IvOk Hc x → d ≤ 17 →
  IterV Tryz.prog 121 [.pointer (some ⟨c, 0, none⟩), .pointer (some ⟨b, 0, none⟩)] Hc (allA x d) := by
 induction x using Iv.ind with
 | h x ih =>
 intro d Hc b c kb kc hroc hb hc hx hd
 have hmc : marksOf Hc = [] := marks_ro hroc
 refine ⟨enterO Tryz.func121 rfl rfl, fun X Ho I St l x0 hro hmk h0 hy => ?_⟩
 have hmarks : ∀ x, marksOf (Hc ++ Ho x) = [] := fun x => by rw [marks_append, hmc, hmk]; rfl
 have hm0 := hmarks x0
 have hb' := fun z => findE_appT (B := Ho z) hb
 have hc' := fun z => findE_appT (B := Ho z) hc
 have hhead := allV_head x d
 obtain ⟨vs, hvs⟩ : ∃ vs, vs = allA x d := ⟨_, rfl⟩
 have hv0 : vs[0]? = some [.int .i64 (d : Nat), x.v] := by rw [hvs]; unfold allA; rw [hhead]; rfl
 rw [← hvs] at hy ⊢
 have yl : ∀ (j : Nat) (z : X) (args : List Value) (e : Ent) (A : Hp) (K' : Value → Hp → Prop), vs[j]? = some args → I j z → marksOf [e] = [] → (∀ x', I (j + 1) x' → K' (.bool true) (A ++ (Ho x' ++ [e]))) → (∀ x', St x' → K' (.bool false) (A ++ (Ho x' ++ [e]))) → YieldV Tryz.prog l args (e :: (A ++ Ho z)) K' := fun j z args e A K' hj hi hme ht hf => by
  refine (hy j z args hj hi).frame2 ?_ hme ?_
  · rintro v H' (⟨rfl, x', _, rfl⟩ | ⟨rfl, x', _, rfl⟩) <;> exact hro z x'
  · rintro v H' (⟨rfl, x', h, rfl⟩ | ⟨rfl, x', h, rfl⟩)
    · exact ht x' h
    · exact hf x' h
 obtain ⟨p, cc, hsv, -⟩ := id hx.li
 have c1l : List.take 1 (List.drop 2 x.cells) = [.slice p x.kids.length cc] := by rw [Iv.drop2, hsv]
 have c3l : List.take 3 x.cells = x.cells := List.take_of_length_le (Nat.le_of_eq rfl)
 have yf : ∀ (x' : X) (e : Ent), marksOf [e] = [] → (I vs.length x' ∨ St x') → ∃ H'_1, List.Sublist H'_1 (dropM (Hc ++ (Ho x' ++ [e]))) ∧ ∃ x, (I vs.length x ∨ St x) ∧ H'_1 = Ho x := fun x' e hm hst => by
  refine ⟨Ho x', ?_, x', hst, rfl⟩
  rw [← List.append_assoc, dropM_eq (by rw [marks_append, hmarks, hm]; rfl)]
  exact (List.sublist_append_right _ _).trans (List.sublist_append_left _ _)
 refine callsO gN3_ok Tryz.mix Tryz.pl121 Tryz.func121 rfl Tryz.ntmps121 Tryz.results121 rfl (by first | rfl | assumption) (Nat.le_of_ble_eq_true rfl) (by kernel_rfl) ?_
 simp only [push_cast, seval, reduceCtorEq]
 intro b3 hb3
 have d1 := (fresh_findS hb3 (hb' x0)).2
 have d2 := (fresh_findS hb3 (hc' x0)).2
 try simp only [push_cast, seval, reduceCtorEq, d1, d2, hb', hc', Iv.len, c3l]
 refine yl 0 x0 _ ⟨b3, 0, .cel 149, [.func (.yield l) #[] #[]]⟩ Hc _ hv0 h0 rfl (fun x' hx' => ?_) (fun x' hx' => ?_)
 · have hb2 := findE_appT (B := Ho x' ++ [⟨b3, 0, .cel 149, [.func (.yield l) #[] #[]]⟩]) hb
   have hc2 := findE_appT (B := Ho x' ++ [⟨b3, 0, .cel 149, [.func (.yield l) #[] #[]]⟩]) hc
   by_cases h16 : 16 < d
   · have k1 : (16 : Int) < (d : Int) := by omega
     simp only [push_cast, seval, reduceCtorEq, hb2, hc2, k1]
     exact yf x' _ rfl (.inl (by have hl : vs.length = 1 := by { rw [hvs]; unfold allA; rw [hhead, if_pos h16]; rfl }
                                 rw [hl]; exact hx'))
   · have k1 : ¬ (16 : Int) < (d : Int) := by omega
     simp only [push_cast, seval, reduceCtorEq, hb2, hc2, k1, Iv.len, c1l]
     obtain ⟨B3, hB3⟩ : ∃ B : Ent, B = ⟨b3, 0, .cel 149, [.func (.yield l) #[] #[]]⟩ := ⟨_, rfl⟩
     rw [← hB3]
     have mB3 : marksOf [B3] = [] := by rw [hB3]; rfl
     have f3 : fresh b3 Hc := (fresh_app_iff.1 hb3).1
     refine WpV.perm (H' := B3 :: (Hc ++ Ho x')) (by rw [← List.append_assoc]; exact List.perm_append_singleton ..) (by rw [← List.append_assoc, marks_append _ [B3], mB3, List.append_nil, hmarks, show B3 :: (Hc ++ Ho x') = [B3] ++ (Hc ++ Ho x') from rfl, marks_append, mB3, hmarks]; rfl) ?_
     have hF3 : findE (B3 :: Hc) b3 = some B3 := by rw [hB3]; simp [findE]
     have hFb : findE (B3 :: Hc) b = some ⟨b, 0, kb, x.cells⟩ := by rw [hB3, findE, if_neg d1]; exact hb
     have hFc : findE (B3 :: Hc) c = some ⟨c, 0, kc, [.int .i64 (d : Nat)]⟩ := by rw [hB3, findE, if_neg d2]; exact hc
     refine loopO gN3_ok (pl := Tryz.pl121) Tryz.mix (X := (Nat × X) × List Nat)
      (fun s => ([(1, .pointer (some ⟨c, 0, none⟩)), (2, .pointer (some ⟨b, 0, none⟩)), (3, .pointer (some ⟨b3, 0, none⟩)), (18, .slice p x.kids.length cc), (19, .int .i64 x.kids.length), (20, .int .i64 s.1.1)], s.2.map mkD ++ ((B3 :: Hc) ++ Ho s.1.2)))
      (fun s => s.1.1 ≤ x.kids.length ∧ I (1 + (allVs (x.kids.take s.1.1) (d + 1)).length) s.1.2 ∧ freshN (s.2.map mkD) (B3 :: Hc)) (fun s => x.kids.length - s.1.1) ((0, x'), []) ?_ ?_ (by kernel_rfl) ?_
     · exact ⟨Nat.zero_le _, by simpa [allVs] using hx', trivial⟩
     · simp only [push_cast, seval, reduceCtorEq]
       try exact subH_self _
     · rintro ⟨⟨i, z⟩, Ds⟩ ⟨hi, hI, hfD⟩
       dsimp only at hi hI hfD ⊢
       have hG3 : findE (Ds.map mkD ++ B3 :: (Hc ++ Ho z)) b3 = some _ := find_ds (X := Ho z) hF3 hfD
       have hGb : findE (Ds.map mkD ++ B3 :: (Hc ++ Ho z)) b = some _ := find_ds (X := Ho z) hFb hfD
       have hGc : findE (Ds.map mkD ++ B3 :: (Hc ++ Ho z)) c = some _ := find_ds (X := Ho z) hFc hfD
       have hmB : marksOf (B3 :: Hc ++ Ho z) = [] := by rw [List.cons_append, show B3 :: (Hc ++ Ho z) = [B3] ++ (Hc ++ Ho z) from rfl, marks_append, mB3, hmarks]; rfl
       rcases Nat.lt_or_ge i x.kids.length with hlt | hge
       · obtain ⟨k, hk⟩ : ∃ k, x.kids[i]? = some k := ⟨x.kids[i], List.getElem?_eq_getElem hlt⟩
         have hkm := List.mem_of_getElem? hk
         obtain ⟨p', cc', hsv', hla⟩ := hx.li.openC Iv.len (by decide)
         rw [hsv] at hsv'
         obtain ⟨rfl, rfl⟩ : p = p' ∧ cc = cc' := by injection hsv' with h1 h2 h3; exact ⟨h1, h3⟩
         rcases hla with hl0 | ⟨bb, f, dd, kd, cs, rfl, he, hat⟩
         · rw [hl0] at hk; simp at hk
         obtain ⟨a1, a2⟩ := hat i k hk
         have d3 := (fresh_findS f3 he).2
         have hFk : findE (B3 :: Hc) bb = some ⟨bb, f, kd, cs⟩ := by rw [hB3, findE, if_neg d3]; exact he
         have hGk : findE (Ds.map mkD ++ B3 :: (Hc ++ Ho z)) bb = some _ := find_ds (X := Ho z) hFk hfD
         have kok := hx.kid k hkm
         have k1one : oneC k.sv = true := by obtain ⟨p, c, he, -⟩ := kok.li; rw [he]; rfl
         have kall : k.cells.all oneC = true := Iv.all1 k1one
         have k3 : List.take 3 k.cells = k.cells := List.take_of_length_le (Nat.le_of_eq rfl)
         have i1 : (i : Int) < (x.kids.length : Int) := by omega
         simp only [push_cast, seval, reduceCtorEq, i1, hlt, hGk, a1, a2, kall, Iv.len, k3]
         intro b5 hb5
         have e5 := (fresh_findS hb5 hGc).2
         simp only [push_cast, seval, reduceCtorEq, e5, hGc, Iv.len, k3, wrap_i64' (show -9223372036854775808 ≤ (d : Int) + 1 ∧ (d : Int) + 1 ≤ 9223372036854775807 by omega)]
         rw [show (d : Int) + 1 = ((d + 1 : Nat) : Int) from rfl]
         refine (rall_ok k ((d + 1 : Nat) : Int) k1one).use trivial ?_
         rintro _ _ ⟨b', c', rfl, rfl, hne, hne2⟩
         refine ⟨⟨trivial, trivial, trivial⟩, rfl, fun hfn => ?_⟩
         simp only [push_cast, seval, reduceCtorEq]
         obtain ⟨C, hC⟩ : ∃ C : Ent, C = ⟨c', 0, .cel 3, [.int .i64 ((d + 1 : Nat) : Int)]⟩ := ⟨_, rfl⟩
         obtain ⟨Bk, hBk⟩ : ∃ C : Ent, C = ⟨b', 0, .cel 90, k.cells⟩ := ⟨_, rfl⟩
         obtain ⟨E5, hE5⟩ : ∃ C : Ent, C = ⟨b5, 0, .cel 90, k.cells⟩ := ⟨_, rfl⟩
         rw [← hE5] at hfn
         obtain ⟨fc', fb', -⟩ := hfn
         have gc := fresh_app fc'.2.2
         have gb := fresh_app fb'.2.2
         have hc'H : fresh c' Hc := (fresh_app_iff.1 gc.2.2).1
         have hb'H : fresh b' Hc := (fresh_app_iff.1 gb.2.2).1
         rw [show (⟨c', 0, .cel 3, [.int .i64 ((d : Int) + 1)]⟩ : Ent) = C from hC.symm, ← hBk, ← hE5]
         have mB : ∀ X : Hp, marksOf (B3 :: X) = marksOf X := fun X => by rw [hB3]; rfl
         have mC : ∀ X : Hp, marksOf (C :: X) = marksOf X := fun X => by rw [hC]; rfl
         have mK : ∀ X : Hp, marksOf (Bk :: X) = marksOf X := fun X => by rw [hBk]; rfl
         have mN : marksOf ([] : Hp) = [] := rfl
         have m5 : ∀ X : Hp, marksOf (E5 :: X) = marksOf X := fun X => by rw [hE5]; rfl
         refine WpV.perm (H' := ([C, Bk, E5] ++ (Ds.map mkD ++ (B3 :: Ho z))) ++ Hc) ?_ ?_ ?_
         · classical
           refine List.perm_iff_count.2 fun a => ?_
           simp only [List.count_append, List.count_cons, List.count_nil]
           omega
         · simp [marks_append, mB, mC, mK, m5, hmc, hmk, mkD_marks, mN]
         refine WpV.dupN (L := [C, Bk, E5] ++ (Ds.map mkD ++ (B3 :: Ho z))) hroc ?_
         refine WpV.perm (H' := ([C, Bk] ++ Hc) ++ ((Ds.map mkD ++ (B3 :: (Hc ++ Ho z))) ++ [E5])) ?_ ?_ ?_
         · classical
           refine List.perm_iff_count.2 fun a => ?_
           simp only [List.count_append, List.count_cons, List.count_nil]
           omega
         · simp [marks_append, mB, mC, mK, m5, hmc, hmk, mkD_marks, mN]
         have hit' : IterV Tryz.prog 121 [.pointer (some ⟨c', 0, none⟩), .pointer (some ⟨b', 0, none⟩)] ([C, Bk] ++ Hc) (allA k (d + 1)) := by
          refine IterV.toRo (A := [C, Bk]) ?_ ?_
          · intro e he
            rcases List.mem_cons.1 he with rfl | he
            · rw [hC]; exact ⟨rfl, _, rfl⟩
            · rw [List.mem_singleton.1 he, hBk]; exact ⟨rfl, _, rfl⟩
          have x1 : Ext Hc (roE Bk :: Hc) := Ext.cons hmc (by rw [hBk]; rfl) (by rw [hBk]; exact hb'H)
          have x2 : Ext (roE Bk :: Hc) (roE C :: roE Bk :: Hc) := Ext.cons (by rw [hBk]; exact hmc) (by rw [hC]; rfl) (by rw [hC, hBk]; exact ⟨hne, hne2, hc'H⟩)
          refine ih k hkm (d + 1) ([C, Bk].map roE ++ Hc) b' c' .ro .ro ?_ ?_ ?_ ((kok.ext x1).ext x2) (by omega)
          · intro e he
            rcases List.mem_append.1 he with he | he
            · obtain ⟨y, -, rfl⟩ := List.mem_map.1 he; rfl
            · exact hroc e he
          · rw [hC, hBk]; simp [findE, roE, hne2]
          · rw [hC, hBk]; simp [findE, roE]
         have hlk : (allA k (d + 1)).length = (allV k (d + 1)).length := by unfold allA; rw [List.length_map]
         have htk := allVs_take x.kids (d + 1) hk
         refine rangeO gN3_ok (pl := Tryz.pl121) Tryz.mix (Hc := [C, Bk] ++ Hc) (Hm := Ds.map mkD) hit' rfl
          (X := X) (fun z => B3 :: (Hc ++ Ho z)) (fun j z => I (1 + (allVs (x.kids.take i) (d + 1)).length + j) z) (fun c z => c = .ret ∧ St z) z
          ?_ ?_ ?_ ?_ (mkD_wr Ds) (fun z => ?_) (fun z y e he => ?_) ?_ (by kernel_rfl) (by kernel_rfl) ?_ ?_ ?_ ?_
         · exact hI
         · rw [show [C, Bk] ++ Hc ++ (Ds.map mkD ++ B3 :: (Hc ++ Ho z) ++ [E5]) = ([C, Bk] ++ Hc ++ (Ds.map mkD ++ B3 :: (Hc ++ Ho z))) ++ [E5] by simp only [List.append_assoc]]
           exact subH_frontN _ _
         · simp [marks_append, mB, mC, mK, m5, hmc, hmk, mkD_marks, mN]
         · simp [marks_append, mC, mK, hmc]
         · simp [marks_append, mB, hmc, hmk]
         · rcases List.mem_cons.1 he with rfl | he
           · exact .inr (by simp)
           rcases List.mem_append.1 he with he | he
           · exact .inr (by simp [he])
           · rcases hro z y e he with h | h
             · exact .inl h
             · exact .inr (by simp [h])
         · intro args ha
           obtain ⟨y, -, rfl⟩ := List.mem_map.1 ha
           rfl
         · rintro c' z' ⟨rfl, -⟩
           kernel_rfl
         · rintro lo j z1 args hj hI1
           have hat2 := all_at h16 hk hj
           rw [← hvs] at hat2
           obtain ⟨q, hq, rfl⟩ := Option.map_eq_some_iff.1 ((List.getElem?_map ..).symm.trans hj)
           subst hB3
           have qok := allV_ok k kok q (List.mem_of_getElem? hq)
           have qall : q.2.cells.all oneC = true := Iv.all1 qok.one
           have q3 : List.take 3 q.2.cells = q.2.cells := List.take_of_length_le (Nat.le_of_eq rfl)
           have qv : q.2.v.cells.toList = q.2.cells := rfl
           have hf3' : findE ((⟨b3, 0, .cel 149, [.func (.yield l) #[] #[]]⟩ : Ent) :: (Hc ++ Ho z1)) b3 = some ⟨b3, 0, .cel 149, [.func (.yield l) #[] #[]]⟩ := by simp [findE]
           have hmB1 : marksOf ((⟨b3, 0, .cel 149, [.func (.yield l) #[] #[]]⟩ : Ent) :: (Hc ++ Ho z1)) = [] := hmarks z1
           generalize hRK : (roundK _ _ _ j : Exit → Tm → Hp → Prop) = RK
           show oC _ _ _ _ _ _ _ (parT 36 _ _ [.int .i64 (q.1 : Nat), q.2.v]) _
           simp only [push_cast, seval, reduceCtorEq, hmB1, qall, q3, Iv.len, qv]
           intro b7 hb7
           have e7 := hb7.2.1
           simp only [push_cast, seval, reduceCtorEq, e7, q3, Iv.len]
           refine ⟨hmarks z1, roSub_of fun e he => .inr (List.mem_cons_of_mem _ he), ?_⟩
           refine yl _ z1 _ ⟨b7, 0, .cel 90, q.2.cells⟩ (_ :: Hc) _ hat2 hI1 rfl (fun x' hx' => ?_) (fun x' hx' => ?_)
           · simp only [push_cast, seval, reduceCtorEq]
             rw [← hRK]
             exact ⟨x', hx', by rw [← List.append_assoc]; exact subH_frontN [_] (_ :: (Hc ++ Ho x'))⟩
           · simp only [push_cast, seval, reduceCtorEq]
             rw [← hRK]
             exact ⟨x', ⟨rfl, hx'⟩, by rw [← List.append_assoc]; exact subH_frontN [_] (_ :: (Hc ++ Ho x'))⟩
         · rintro D z1 hfD1 hI1
           have hI2 : I (1 + (allVs (x.kids.take (i + 1)) (d + 1)).length) z1 := by
            rw [htk, List.length_append, ← Nat.add_assoc, ← hlk]; exact hI1
           have hD2 : fresh D (B3 :: Hc) := by
            have h1 := fresh_app hfD1
            rw [show B3 :: (Hc ++ Ho z1) = (B3 :: Hc) ++ Ho z1 from rfl] at h1
            exact (fresh_app_iff.1 h1).1
           have hxl := hx.len
           simp only [push_cast, seval, reduceCtorEq, wrap_i64' (show -9223372036854775808 ≤ (i : Int) + 1 ∧ (i : Int) + 1 ≤ 9223372036854775807 by omega)]
           exact ⟨((i + 1, z1), D :: Ds), ⟨hlt, hI2, hD2, hfD⟩, by dsimp only; omega, rfl, subH_self _, rfl⟩
         · rintro D cd z1 hfD1 ⟨rfl, hst⟩
           simp only [push_cast, seval, reduceCtorEq]
           refine ⟨Ho z1, ?_, z1, .inr hst, rfl⟩
           rw [dropM_app, dropM_mkD, List.nil_append, dropM_eq (by rw [mB]; exact hmarks z1), show B3 :: (Hc ++ Ho z1) = (B3 :: Hc) ++ Ho z1 from rfl]
           exact List.sublist_append_right _ _
       · obtain rfl : i = x.kids.length := by omega
         simp only [push_cast, seval, reduceCtorEq, Int.lt_irrefl]
         refine ⟨Ho z, ?_, z, .inl ?_, rfl⟩
         · rw [dropM_app, dropM_mkD, List.nil_append, show B3 :: (Hc ++ Ho z) = (B3 :: Hc) ++ Ho z from rfl, dropM_eq hmB]
           exact List.sublist_append_right _ _
         · rw [hvs, all_len h16]
           rw [List.take_length] at hI
           exact hI
 · simp only [push_cast, seval, reduceCtorEq]
   exact yf x' _ rfl (.inr hx')
end Go.Proofs.YtpcjmmdgopihcaaGreatDoor
namespace Go.Ev
def okN (j : Nat) (p : Nat × Iv) : Bool := decide (j + 1 ≤ 5000) && (decide (p.1 ≤ 16) && wfI p.2.it)
theorem wfI_it (y : Iv) : wfI y.it = if y.list then y.bytes.isEmpty else y.kids.isEmpty := by
 unfold wfI
 rw [Iv.it_list, Iv.it_bytes, Iv.it_kids]
 cases y.list <;> simp [List.isEmpty_iff]
theorem rightI_it (x : Iv) : rightI x.it = (decide ((allV x 1).length ≤ 5000) && (allV x 1).all fun p => decide (p.1 ≤ 16) && wfI p.2.it) := by
 unfold rightI
 rw [← allV_it, List.length_map, List.all_map]
 rfl
theorem right_all {x : Iv} (h : ∀ j p, (allV x 1)[j]? = some p → okN j p = true) : rightI x.it = true := by
 rw [rightI_it, Bool.and_eq_true, decide_eq_true_eq, List.all_eq_true]
 refine ⟨?_, fun p hp => ?_⟩
 · rcases Nat.eq_zero_or_pos (allV x 1).length with h0 | h0
   · omega
   · have := h ((allV x 1).length - 1) _ (List.getElem?_eq_getElem (by omega))
     unfold okN at this
     rw [Bool.and_eq_true, decide_eq_true_eq] at this
     omega
 · obtain ⟨j, hj⟩ := List.getElem?_of_mem hp
   have := h j p hj
   unfold okN at this
   rw [Bool.and_eq_true] at this
   exact this.2
theorem right_not {x : Iv} {j : Nat} {p : Nat × Iv} (hj : (allV x 1)[j]? = some p) (h : okN j p = false) : rightI x.it = false := by
 cases hr : rightI x.it with
 | false => rfl
 | true =>
   rw [rightI_it, Bool.and_eq_true, decide_eq_true_eq, List.all_eq_true] at hr
   have hlt := (List.getElem?_eq_some_iff.1 hj).1
   have h2 := hr.2 p (List.mem_of_getElem? hj)
   unfold okN at h
   rw [decide_eq_true (by omega), Bool.true_and, h2] at h
   cases h
end Go.Ev
namespace Go.Proofs.YtpcjmmdgopihcaaGreatDoor
open Go Go.Ev Go.Proofs
def plRRN : Plans := fun i => if i = 6 then [(0, 9)] else Tryz.pl71 i
attribute [push_cast] plRRN
theorem rright_ok {M0 : Hp} (hr : roM M0) {x : Iv} (hx : IvOk M0 x) : CallsV Tryz.prog 71 [x.v] M0 (Ret0 (.bool (rightI x.it))) := by
 have hm := hr.marks
 have xall : x.cells.all oneC = true := Iv.all1 hx.one
 have xv : x.v.cells.toList = x.cells := rfl
 have x3 : List.take 3 x.cells = x.cells := List.take_of_length_le (Nat.le_of_eq rfl)
 obtain ⟨R, hR⟩ : ∃ R, R = rightI x.it := ⟨_, rfl⟩
 rw [← hR]
 refine callsO gN3_ok Tryz.mix plRRN Tryz.func71 rfl Tryz.ntmps71 Tryz.results71 rfl (by first | rfl | assumption) (Nat.le_of_ble_eq_true rfl) (by kernel_rfl) ?_
 simp only [push_cast, seval, reduceCtorEq, xv]
 intro b1 hb1 b2 hb2 b3 hb3
 try simp only [push_cast, seval, reduceCtorEq, hb2, hb3, x3, Iv.len]
 have hroM : ∀ e ∈ M0, e.kind = .ro := fun e he => (derE_mem hr.der e he).1
 have f1 : fresh b1 M0 := hb1
 refine (rall_ok x ((1 : Nat) : Int) hx.one).use trivial ?_
 rintro _ _ ⟨b', c', rfl, rfl, hne, hne2⟩
 refine ⟨⟨trivial, trivial, trivial⟩, rfl, fun hfn => ?_⟩
 have hfn0 := hfn
 simp only [push_cast, seval, reduceCtorEq] at hfn0
 simp only [push_cast, seval, reduceCtorEq, hb2, hb3]
 obtain ⟨C, hC⟩ : ∃ C : Ent, C = ⟨c', 0, .cel 3, [.int .i64 1]⟩ := ⟨_, rfl⟩
 obtain ⟨Bk, hBk⟩ : ∃ C : Ent, C = ⟨b', 0, .cel 90, x.cells⟩ := ⟨_, rfl⟩
 rw [← hC, ← hBk]
 have mC : ∀ X : Hp, marksOf (C :: X) = marksOf X := fun X => by rw [hC]; rfl
 have mK : ∀ X : Hp, marksOf (Bk :: X) = marksOf X := fun X => by rw [hBk]; rfl
 obtain ⟨fc', fb', -⟩ := hfn
 have hc'M : fresh c' M0 := fc'.2.2.2.2.2.2
 have hb'M : fresh b' M0 := fb'.2.2.2.2.2.2
 refine WpV.perm (H' := ([C, Bk] ++ M0) ++ ([⟨b3, 0, .cel 3, [.int .i64 0]⟩, ⟨b2, 0, .cel 4, [.bool false]⟩] ++ [⟨b1, 0, .cel 90, x.cells⟩])) ?_ ?_ ?_
 · classical
   refine List.perm_iff_count.2 fun a => ?_
   simp only [List.count_append, List.count_cons, List.count_nil]
   omega
 · subst hC hBk; simp [marks_append, hm, marksOf]
 have hit' : IterV Tryz.prog 121 [.pointer (some ⟨c', 0, none⟩), .pointer (some ⟨b', 0, none⟩)] ([C, Bk] ++ M0) (allA x 1) := by
  refine IterV.toRo (A := [C, Bk]) ?_ ?_
  · intro e he
    rcases List.mem_cons.1 he with rfl | he
    · rw [hC]; exact ⟨rfl, _, rfl⟩
    · rw [List.mem_singleton.1 he, hBk]; exact ⟨rfl, _, rfl⟩
  have x1 : Ext M0 (roE Bk :: M0) := Ext.cons hm (by rw [hBk]; rfl) (by rw [hBk]; exact hb'M)
  have x2 : Ext (roE Bk :: M0) (roE C :: roE Bk :: M0) := Ext.cons (by rw [hBk]; exact hm) (by rw [hC]; rfl) (by rw [hC, hBk]; exact ⟨hne, hne2, hc'M⟩)
  refine rall1_ok x 1 ([C, Bk].map roE ++ M0) b' c' .ro .ro ?_ ?_ ?_ ((hx.ext x1).ext x2) (by omega)
  · intro e he
    rcases List.mem_append.1 he with he | he
    · obtain ⟨y, -, rfl⟩ := List.mem_map.1 he; rfl
    · exact hroM e he
  · rw [hC, hBk]; simp [findE, roE, hne2]
  · rw [hC, hBk]; simp [findE, roE]
 refine rangeO gN3_ok (pl := plRRN) Tryz.mix (Hc := [C, Bk] ++ M0) (Hm := []) hit' rfl
  (X := Nat × Bool) (fun s => [⟨b3, 0, .cel 3, [.int .i64 s.1]⟩, ⟨b2, 0, .cel 4, [.bool s.2]⟩])
  (fun k s => s = (k, false) ∧ ∀ j p, j < k → (allV x 1)[j]? = some p → okN j p = true) (fun c s => c = .ret ∧ s.2 = false ∧ R = false) (0, false)
  ?_ ?_ ?_ ?_ (by simp) (fun s => rfl) (fun s u e he => .inl ?_) ?_ (by kernel_rfl) (by kernel_rfl) ?_ ?_ ?_ ?_
 · exact ⟨rfl, fun j p hj => absurd hj (Nat.not_lt_zero _)⟩
 · rw [← List.append_assoc]; exact subH_frontN _ _
 · subst hC hBk; simp [marks_append, hm, marksOf]
 · subst hC hBk; simp [marks_append, hm, marksOf]
 · simp at he; rcases he with rfl | rfl <;> trivial
 · intro args ha
   obtain ⟨y, -, rfl⟩ := List.mem_map.1 ha
   rfl
 · rintro c' z' ⟨rfl, -⟩
   kernel_rfl
 · rintro lo k s args hk ⟨rfl, hok⟩
   obtain ⟨q, hq, rfl⟩ := Option.map_eq_some_iff.1 ((List.getElem?_map ..).symm.trans hk)
   have qok := allV_ok x hx q (List.mem_of_getElem? hq)
   have qall : q.2.cells.all oneC = true := Iv.all1 qok.one
   have q3 : List.take 3 q.2.cells = q.2.cells := List.take_of_length_le (Nat.le_of_eq rfl)
   have qv : q.2.v.cells.toList = q.2.cells := rfl
   have hk5 : k ≤ 5000 := by
    rcases Nat.eq_zero_or_pos k with h0 | h0
    · omega
    · have hlt := (List.getElem?_eq_some_iff.1 hq).1
      have := hok (k - 1) _ (by omega) (List.getElem?_eq_getElem (by omega))
      unfold okN at this
      rw [Bool.and_eq_true, decide_eq_true_eq] at this
      omega
   generalize hRK : (roundK _ _ _ k : Exit → Tm → Hp → Prop) = RK
   show oC _ _ _ _ _ _ _ (parT 38 _ _ [.int .i64 (q.1 : Nat), q.2.v]) _
   dsimp only
   simp only [push_cast, seval, reduceCtorEq, hb2, hb3, qall, q3, Iv.len, qv]
   intro b5 hb5
   simp only [push_cast, seval, reduceCtorEq, hb2, hb3, hb5, wrap_i64' (show -9223372036854775808 ≤ (k : Int) + 1 ∧ (k : Int) + 1 ≤ 9223372036854775807 by omega)]
   refine regO gN3_ok ?_
   obtain ⟨p2, c2, hs2, -⟩ := id qok.li
   have qc : q.2.cells = [.bool q.2.list, .string (bs q.2.bytes), .slice p2 q.2.kids.length c2] := by rw [← hs2]; rfl
   have e1 : ByteArray.toList { data := #[] } = [] := bs_toList []
   have stop : ∀ T, okN k q = false → RK .ret T ([⟨b5, 0, .cel 90, q.2.cells⟩, ⟨b3, 0, .cel 3, [.int .i64 ((k : Int) + 1)]⟩, ⟨b2, 0, .cel 4, [.bool false]⟩]) := fun T h => by
    rw [← hRK]
    refine ⟨(k + 1, false), ⟨rfl, rfl, by rw [hR]; exact right_not hq h⟩, ?_⟩
    exact subH_cons (by simp only [push_cast, seval, reduceCtorEq, hb5])
   have next : ∀ T, okN k q = true → RK .normal T ([⟨b5, 0, .cel 90, q.2.cells⟩, ⟨b3, 0, .cel 3, [.int .i64 ((k : Int) + 1)]⟩, ⟨b2, 0, .cel 4, [.bool false]⟩]) := fun T h => by
    rw [← hRK]
    refine ⟨(k + 1, false), ⟨rfl, fun j p hj hp => ?_⟩, ?_⟩
    · by_cases hjk : j = k
      · subst hjk; rw [hq] at hp; cases hp; exact h
      · exact hok j p (by omega) hp
    · exact subH_cons (by simp only [push_cast, seval, reduceCtorEq, hb5])
   have hw := wfI_it q.2
   have un : okN k q = (decide (k + 1 ≤ 5000) && (decide (q.1 ≤ 16) && wfI q.2.it)) := rfl
   rw [hw] at un
   by_cases h1 : 5000 < k + 1
   · have c1 : (5000 : Int) < (k : Int) + 1 := by omega
     have hbad : okN k q = false := by rw [un, decide_eq_false (by omega)]; rfl
     simp only [push_cast, seval, reduceCtorEq, hb2, hb3, hb5, c1]
     exact stop _ hbad
   have c1 : ¬ (5000 : Int) < (k : Int) + 1 := by omega
   rw [decide_eq_true (show k + 1 ≤ 5000 by omega), Bool.true_and] at un
   by_cases h2 : 16 < q.1
   · have c2 : (16 : Int) < (q.1 : Int) := by omega
     have hbad : okN k q = false := by rw [un, decide_eq_false (by omega)]; rfl
     simp only [push_cast, seval, reduceCtorEq, hb2, hb3, hb5, c1, c2]
     exact stop _ hbad
   have c2 : ¬ (16 : Int) < (q.1 : Int) := by omega
   rw [decide_eq_true (show q.1 ≤ 16 by omega), Bool.true_and] at un
   cases hl : q.2.list with
   | true =>
     rw [hl, if_pos rfl] at un
     rw [hl] at qc
     by_cases hbs : q.2.bytes = []
     · have e2 : (q.2.bytes == []) = true := by rw [hbs]; rfl
       simp only [push_cast, seval, reduceCtorEq, hb2, hb3, hb5, c1, c2, qc, e1, e2]
       rw [← qc]
       exact next _ (by rw [un, hbs]; rfl)
     · have e2 : (q.2.bytes == []) = false := by simpa using hbs
       simp only [push_cast, seval, reduceCtorEq, hb2, hb3, hb5, c1, c2, qc, e1, e2]
       rw [← qc]
       exact stop _ (by rw [un]; simpa [List.isEmpty_iff] using hbs)
   | false =>
     rw [hl, if_neg (by decide)] at un
     rw [hl] at qc
     by_cases hks : q.2.kids = []
     · have e2 : ¬ 0 < q.2.kids.length := by rw [hks]; decide
       simp only [push_cast, seval, reduceCtorEq, hb2, hb3, hb5, c1, c2, qc, e1, e2]
       rw [← qc]
       exact next _ (by rw [un, hks]; rfl)
     · have e2 : 0 < q.2.kids.length := List.length_pos_iff.2 hks
       simp only [push_cast, seval, reduceCtorEq, hb2, hb3, hb5, c1, c2, qc, e1, e2]
       rw [← qc]
       exact stop _ (by rw [un]; simpa [List.isEmpty_iff] using hks)
 · rintro D s hfD ⟨rfl, hok⟩
   simp only [push_cast, seval, reduceCtorEq] at hfD
   have hl : (allA x 1).length = (allV x 1).length := by unfold allA; rw [List.length_map]
   have hRt : R = true := by rw [hR]; exact right_all fun j p hp => hok j p (by rw [hl]; exact (List.getElem?_eq_some_iff.1 hp).1) hp
   simp only [push_cast, seval, reduceCtorEq, hb2, hb3, hfD, hRt]
 · rintro D cd s hfD ⟨rfl, h1, h2⟩
   simp only [push_cast, seval, reduceCtorEq] at hfD
   obtain ⟨s1, s2⟩ := s
   dsimp only at h1
   subst h1
   simp only [push_cast, seval, reduceCtorEq, hb2, hb3, hfD, h2]
end Go.Proofs.YtpcjmmdgopihcaaGreatDoor
namespace Go.Ev
open Go.RowKit
def IterN (P : Program) (gf : FuncId) (caps : List Value) (Hc : Hp) (num : Nat) (V : Nat → List Value → Hp → Prop) : Prop :=
 (∀ (ar : Array Value) (w : World), (callFunc gf ar).run P w = .ok (.enter gf ar) w) ∧
 ∀ (X : Type) (Ho : X → Hp) (I : Nat → X → Prop) (St : X → Prop) (l : Nat) (x0 : X), (∀ x y, ∀ e ∈ Ho y, e.wr ∨ e ∈ Ho x) → (∀ x, marksOf (Ho x) = []) → I 0 x0 →
  (∀ k x args N, k < num → V k args N → allWr N → marksOf N = [] → I k x → YieldV P l args (N ++ Ho x) fun v H' => (v = .bool true ∧ ∃ x', I (k + 1) x' ∧ H' = Ho x') ∨ (v = .bool false ∧ ∃ x', St x' ∧ H' = Ho x')) →
  CallsV P gf (.func (.yield l) #[] #[] :: caps) (Hc ++ Ho x0) fun _ H' => ∃ x, (I num x ∨ St x) ∧ H' = Ho x
theorem round_okN {P : Program} {G : Gam} (hG : GamOk P G) (hmix : P.follows .mixedOrders = true) {pl : Plans} {n : Nat} {ps : Array Tmp} {assign body : Code} {T : Tm} {args : List Value} {X : Type} {Ho : X → Hp} {I : Nat → X → Prop} {Stop : Code → X → Prop} {a : Act} {L : Nat} {A : Hp} {rec : LoopState → Option Code → Loop} {fn : FuncId} {N : Hp} (hNm : marksOf N = [])
  (hrec : rec = fun st pe => { state := st, pending := pe, fn, tmps := a.tmps, params := ps, assign, body, defers := (rec .ready none).defers }) (ht : TRel n T a) (hps : args.length = ps.size)
  (hmk : ∀ x, marksOf (Ho x) = []) (hro : ∀ x y, ∀ e ∈ Ho y, e.wr ∨ e ∈ Ho x) (k : Nat) (x : X) (hpa : plansOk pl assign = true) (hpb : plansOk pl body = true)
  (hb : evC P G pl (some L) n assign (thenK (fun T' H' => marksOf H' = [] ∧ roSub H' (N ++ Ho x) ∧ evC P G pl (some L) n body (roundK Ho I Stop k) T' H') (fun _ _ _ => False)) (parT n T ps.toList args) (N ++ Ho x)) :
  YieldV P L args (⟨L, 0, .obj (.loop (rec .ready none)), []⟩ :: (A ++ (N ++ Ho x))) fun v H' => (v = .bool true ∧ ∃ x', I (k + 1) x' ∧ H' = ⟨L, 0, .obj (.loop (rec .ready none)), []⟩ :: (A ++ Ho x')) ∨
   (v = .bool false ∧ ∃ x' c, Stop c x' ∧ H' = ⟨L, 0, .obj (.loop (rec .done (some c))), []⟩ :: (A ++ Ho x')) := by
 intro w0 mu W hs
 have hl := hs.objAt
 have hpar : args.toArray.size = (rec .ready none).params.size := by rw [hrec]; simpa using hps
 refine ⟨_, _, _, _, run_yield (P := P) (args := args.toArray) hl hpar, ?_⟩
 have e1 : (rec .ready none).fn = fn := by rw [hrec]
 have e2 : (rec .ready none).params = ps := by rw [hrec]
 have e3 : (rec .ready none).tmps = a.tmps := by rw [hrec]
 have e4 : (rec .ready none).assign = assign := by rw [hrec]
 have e5 : (rec .ready none).body = body := by rw [hrec]
 rw [e1, e2, e3, e4, e5]
 refine roundIn_of_wpIn trivial ?_
 have hfold : (ps.zip args.toArray).foldl (fun tmps (x : Tmp × Value) => tmps.setIfInBounds x.1 x.2) a.tmps = (ps.toList.zip args).foldl (fun t (x : Tmp × Value) => t.setIfInBounds x.1 x.2) a.tmps := by
  rw [← Array.foldl_toList, Array.toList_zip]
 have hfold' : (ps.zip args.toArray).foldl (fun tmps (t, a) => tmps.setIfInBounds t a) a.tmps = (ps.toList.zip args).foldl (fun t (x : Tmp × Value) => t.setIfInBounds x.1 x.2) a.tmps := hfold
 rw [hfold']
 have ht1 := parT_ok ps.toList args T a ht
 have hs1 : Sat w0 mu ((⟨L, 0, .obj (.loop (rec .ready none)), []⟩ :: A) ++ (N ++ Ho x)) W := hs
 have hin := frame_in hs1
 have pAH := (List.pairwise_append.1 hs1.apart).2.2
 have hLlt : L < W.heap.size := (Array.getElem?_eq_some_iff.1 hl).1
 have hLmu : ∀ H' : Hp, (∀ e ∈ H', e.wr → L ≠ e.blk) → ¬ muOf H' L := by
  rintro H' hh ⟨e, he, hw, hb⟩
  exact hh e he hw hb.symm
 have hrA : RoundOk (some L) W (muOf (N ++ Ho x)) := fun l hl' => by
  cases hl'
  exact ⟨hLlt, hLmu _ (fun e he _ => pAH ⟨L, 0, .obj (.loop (rec .ready none)), []⟩ (by simp) e he (.inl trivial)), _, hl⟩
 refine wpIn_mono (evC_ok hG hmix assign _ _ _ hpa hb W (muOf (N ++ Ho x)) _ W hrA ht1 hin (by simp [defersOf, hmk, marks_append, hNm])) ?_
 rintro e a1 W1 ⟨T1, H1, hk1, ht1', hs1', hd1⟩
 cases e with
 | normal =>
   obtain ⟨hm1, hro1, hbody⟩ := hk1
   have hcond : ∀ e ∈ H1, e.wr ∨ ∀ a ∈ (⟨L, 0, .obj (.loop (rec .ready none)), []⟩ :: A : Hp), a.wr → a.blk ≠ e.blk := fun e he => (roSub_mem hro1 e he).imp id fun hm a ha hw => pAH a ha e hm (.inl hw)
   have hs2 : Sat w0 mu (⟨L, 0, .obj (.loop (rec .ready none)), []⟩ :: (A ++ H1)) W1 := frame_out hs1 hs1' hcond
   have hbeg := run_beginRound (P := P) hs2.objAt (by rw [hrec])
   refine ⟨_, hbeg, ?_⟩
   have hs3 : Sat w0 mu ((⟨L, 0, .obj (.loop { rec .ready none with state := .busy }), []⟩ :: A) ++ H1) (W1.putObj L (.loop { rec .ready none with state := .busy })) := hs2.setObj rfl
   have hl3 := Sat.objAt (R := A ++ H1) hs3
   have pAH3 := (List.pairwise_append.1 hs3.apart).2.2
   have hr3 : RoundOk (some L) (W1.putObj L (.loop { rec .ready none with state := .busy })) (muOf H1) := fun l hl' => by
    cases hl'
    exact ⟨(Array.getElem?_eq_some_iff.1 hl3).1, hLmu _ (fun e he _ => pAH3 ⟨L, 0, .obj (.loop { rec .ready none with state := .busy }), []⟩ (by simp) e he (.inl trivial)), _, hl3⟩
   refine wpIn_mono (evC_ok hG hmix body _ _ _ hpb hbody _ (muOf H1) a1 _ hr3 ht1' (frame_in hs3) hd1) ?_
   have back : ∀ (H3 : Hp) (W3 : World) (x' : X), subH H3 (Ho x') → Sat (W1.putObj L (.loop { rec .ready none with state := .busy })) (muOf H1) H3 W3 →
     Sat w0 mu (⟨L, 0, .obj (.loop { rec .ready none with state := .busy }), []⟩ :: (A ++ Ho x')) W3 := fun H3 W3 x' hsub hs4 => by
    refine frame_out hs3 (hs4.sub hsub) ?_
    intro e he
    rcases hro x x' e he with h | h
    · exact .inl h
    · refine .inr fun a ha hw => ?_
      rcases List.mem_cons.1 ha with rfl | ha
      · exact pAH ⟨L, 0, .obj (.loop (rec .ready none)), []⟩ (by simp) e (List.mem_append_right _ h) (.inl trivial)
      · exact pAH a (by simp [ha]) e (List.mem_append_right _ h) (.inl hw)
   have stop : ∀ (c : Code) (H3 : Hp) (W3 : World), (∃ x', Stop c x' ∧ subH H3 (Ho x')) → Sat (W1.putObj L (.loop { rec .ready none with state := .busy })) (muOf H1) H3 W3 →
     ∃ v w', (Instr.endRound L (some c)).run P W3 = .ok v w' ∧ ∃ v' H', (Ending.returned v) = .returned v' ∧ ((v' = .bool true ∧ ∃ x', I (k + 1) x' ∧ H' = ⟨L, 0, .obj (.loop (rec .ready none)), []⟩ :: (A ++ Ho x')) ∨
    (v' = .bool false ∧ ∃ x' c, Stop c x' ∧ H' = ⟨L, 0, .obj (.loop (rec .done (some c))), []⟩ :: (A ++ Ho x'))) ∧ Sat w0 mu H' w' ∧ marksOf H' = marksOf (⟨L, 0, .obj (.loop (rec .ready none)), []⟩ :: (A ++ (N ++ Ho x))) := by
    rintro c H3 W3 ⟨x', hst, hsub⟩ hs4
    have hs5 := back H3 W3 x' hsub hs4
    refine ⟨_, _, run_endRound (P := P) (some c) hs5.objAt, .bool false, _, rfl, .inr ⟨rfl, x', c, hst, rfl⟩, ?_, by simp [marksOf, marks_append, hmk, hNm]⟩
    have := hs5.setObj (o' := .loop (rec .done (some c))) rfl
    rw [show (rec .done (some c)) = { ({ rec .ready none with state := .busy } : Loop) with state := if (some c).isNone then .ready else .done, pending := some c } by rw [hrec]; rfl] at this ⊢
    exact this
   rintro e a3 W3 ⟨T3, H3, hk3, _, hs4, _⟩
   cases e with
   | normal =>
     obtain ⟨x', hi, hsub⟩ := hk3
     have hs5 := back H3 W3 x' hsub hs4
     refine ⟨_, _, run_endRound (P := P) none hs5.objAt, .bool true, _, rfl, .inl ⟨rfl, x', hi, rfl⟩, ?_, by simp [marksOf, marks_append, hmk, hNm]⟩
     have := hs5.setObj (o' := .loop (rec .ready none)) rfl
     rw [show (rec .ready none) = { ({ rec .ready none with state := .busy } : Loop) with state := if (none : Option Code).isNone then .ready else .done, pending := none } by rw [hrec]; rfl] at this ⊢
     exact this
   | ret => exact stop .ret H3 W3 hk3 hs4
   | exit id => exact stop (.exit id) H3 W3 hk3 hs4
   | goto t => exact stop (.goto t) H3 W3 hk3 hs4
   | panic c => exact hk3.elim
   | outgrown => exact hk3.elim
 | _ => exact hk1.elim
theorem rangeN {P : Program} {G : Gam} (hG : GamOk P G) (hmix : P.follows .mixedOrders = true) {pl : Plans} {n : Nat} {g : Operand} {ps : Array Tmp} {assign body : Code} {K : Exit → Tm → Hp → Prop} {T : Tm} {H : Hp} {gf : FuncId} {caps : List Value} {Hc Hm : Hp} {num : Nat} {V : Nat → List Value → Hp → Prop}
  (hit : IterN P gf caps Hc num V) (hg : opd T g = some (.func (.func gf) #[] caps.toArray)) {X : Type} (Ho : X → Hp) (I : Nat → X → Prop) (Stop : Code → X → Prop) (x0 : X) (h0 : I 0 x0)
  (hH : subH H (Hc ++ (Hm ++ Ho x0))) (hmH : marksOf H = marksOf Hm) (hmc : marksOf Hc = []) (hmm : ∀ e ∈ Hm, e.wr) (hmk : ∀ x, marksOf (Ho x) = []) (hro : ∀ x y, ∀ e ∈ Ho y, e.wr ∨ e ∈ Ho x) (hps : ∀ k args N, V k args N → args.length = ps.size) (hpa : plansOk pl assign = true) (hpb : plansOk pl body = true) (hpc : ∀ c x, Stop c x → plansOk pl c = true)
  (hb : ∀ l k x args N, k < num → V k args N → allWr N → marksOf N = [] → freshN N (Ho x) → I k x → evC P G pl (some l) n assign (thenK (fun T' H' => marksOf H' = [] ∧ roSub H' (N ++ Ho x) ∧ evC P G pl (some l) n body (roundK Ho I Stop k) T' H') (fun _ _ _ => False)) (parT n T ps.toList args) (N ++ Ho x))
  (done : ∀ D x, fresh D (Hm ++ Ho x) → I num x → K .normal T (⟨D, 0, .obj (.deferred (some [])), []⟩ :: (Hm ++ Ho x)))
  (stop : ∀ D c x, fresh D (Hm ++ Ho x) → Stop c x → evC P G pl none n c K T (⟨D, 0, .obj (.deferred (some [])), []⟩ :: (Hm ++ Ho x))) : WpV P none n (.rangeFunc g ps assign body) K T H := by
 intro w0 mu a w hr ht hs hd
 have hs0 : Sat w0 mu (Hc ++ (Hm ++ Ho x0)) w := hs.sub hH
 refine wpIn_rangeFunc ?_
 intro fn _
 obtain ⟨rec, hrec⟩ : ∃ rec : LoopState → Option Code → Loop, rec = fun st pe => { state := st, pending := pe, fn, tmps := a.tmps, params := ps, assign, body, defers := w.heap.size } := ⟨_, rfl⟩
 have hrec' : rec = fun st pe => { state := st, pending := pe, fn, tmps := a.tmps, params := ps, assign, body, defers := (rec .ready none).defers } := by rw [hrec]
 let W1 : World := (w.alloc (.deferred (some []))).alloc (.loop (rec .ready none))
 have hsz : (w.alloc (.deferred (some []))).heap.size = w.heap.size + 1 := by simp
 have hsD : Sat w0 mu (⟨w.heap.size, 0, .obj (.deferred (some [])), []⟩ :: (Hc ++ (Hm ++ Ho x0))) (w.alloc (.deferred (some []))) := by
  refine hs0.alloc rfl ?_
  unfold Ent.holds
  exact ⟨rfl, World.alloc_heap_new _ _, rfl⟩
 have hsL : Sat w0 mu (⟨w.heap.size + 1, 0, .obj (.loop (rec .ready none)), []⟩ :: ⟨w.heap.size, 0, .obj (.deferred (some [])), []⟩ :: (Hc ++ (Hm ++ Ho x0))) W1 := by
  refine hsD.alloc hsz.symm ?_
  unfold Ent.holds
  exact ⟨rfl, by have := World.alloc_heap_new (w.alloc (.deferred (some []))) (.loop (rec .ready none)); rwa [hsz] at this, rfl⟩
 let De : Ent := ⟨w.heap.size, 0, .obj (.deferred (some [])), []⟩
 let Ho' : X × Option Code → Hp := fun y => ⟨w.heap.size + 1, 0, .obj (.loop (rec (if y.2.isNone then .ready else .done) y.2)), []⟩ :: Ho y.1
 have hsC : Sat w0 mu ((De :: Hm) ++ (Hc ++ Ho' (x0, none))) W1 := by
  refine hsL.perm ?_
  show List.Perm (_ :: De :: (Hc ++ (Hm ++ Ho x0))) (De :: (Hm ++ (Hc ++ (_ :: Ho x0))))
  refine (List.Perm.swap _ _ _).trans (List.Perm.cons _ ?_)
  refine List.Perm.trans (List.Perm.cons _ ?_) (show List.Perm (_ :: (Hm ++ (Hc ++ Ho x0))) (Hm ++ (Hc ++ (_ :: Ho x0))) from ?_)
  · rw [← List.append_assoc, ← List.append_assoc]
    exact List.Perm.append_right _ List.perm_append_comm
  · rw [← List.append_assoc, ← List.append_assoc]
    exact (List.perm_middle (l₁ := Hm ++ Hc)).symm
 have hmarks : ∀ y, marksOf (Ho' y) = [] := fun y => by
  show marksOf ((⟨w.heap.size + 1, 0, .obj (.loop _), []⟩ : Ent) :: Ho y.1) = _
  simp [marksOf, hmk]
 have hcall := hit.2 (X × Option Code) Ho' (fun k y => I k y.1 ∧ y.2 = none) (fun y => ∃ c, y.2 = some c ∧ Stop c y.1) (w.heap.size + 1) (x0, none)
  (fun x y e he => by
   rcases List.mem_cons.1 he with rfl | he
   · exact .inl trivial
   · exact (hro x.1 y.1 e he).imp id fun h => List.mem_cons_of_mem _ h)
  hmarks ⟨h0, rfl⟩
  (fun k y args N hkn hV hNw hNm hi => by
   obtain ⟨x, j⟩ := y
   obtain ⟨hi, rfl⟩ := hi
   intro w0' mu' W hsW
   have hsW' : Sat w0' mu' (⟨w.heap.size + 1, 0, .obj (.loop (rec .ready none)), []⟩ :: ([] ++ (N ++ Ho x))) W := hsW.perm List.perm_middle
   have hfr : freshN N (Ho x) := freshN_of fun e he z hz => by
    have := (List.pairwise_append.1 hsW.apart).2.2 e he z (List.mem_cons_of_mem _ hz) (.inl (allWr_mem hNw e he))
    exact fun h => this h.symm
   have hround := round_okN hG hmix (Ho := Ho) (I := I) (Stop := Stop) (a := a) (L := w.heap.size + 1) (A := []) hNm hrec' ht (hps k args N hV) hmk hro k x hpa hpb (hb (w.heap.size + 1) k x args N hkn hV hNw hNm hfr hi)
   obtain ⟨fn', tmps', as', bd', h1, h2⟩ := hround w0' mu' W hsW'
   refine ⟨fn', tmps', as', bd', h1, h2.mono ?_⟩
   rintro e W' ⟨v, H', rfl, hv, hs', hm'⟩
   refine ⟨v, H', rfl, ?_, hs', hm'.trans (by simp [Ho', marksOf, marks_append, hNm, hmk])⟩
   rcases hv with ⟨rfl, x', hi', rfl⟩ | ⟨rfl, x', c, hst, rfl⟩
   · exact .inl ⟨rfl, (x', none), ⟨hi', rfl⟩, rfl⟩
   · exact .inr ⟨rfl, (x', some c), ⟨c, rfl, hst⟩, rfl⟩)
 refine ⟨w.heap.size + 1, [{ target := .collected w.heap.size, args := #[] }], W1, { target := .fn (.func gf) caps.toArray, args := #[.func (.yield (w.heap.size + 1)) #[] #[]] }, W1, gf,
  #[.func (.yield (w.heap.size + 1)) #[] #[]] ++ caps.toArray, W1, ?_, ?_, fun _ _ => trivial, ?_, fun hh => by simp [Fr] at hh, ?_⟩
 · rw [show W1 = (w.alloc (.deferred (some []))).alloc (.loop (rec .ready none)) from rfl, hrec]; exact run_enterLoop_outer _ _ _ _ _
 · have hge := opd_eval ht hg
   have hce : ∀ v, a.eval (.const v) = v := fun _ => rfl
   simp [resolve, rangeCall, hge, hce, Deferred.ofValue]
 · simp [invoke, hit.1]
 · have hcl := hcall.2 W1 (muOf (Hc ++ Ho' (x0, none))) W1 (frame_in hsC)
   rw [show (Value.func (.yield (w.heap.size + 1)) #[] #[] :: caps).toArray = #[Value.func (.yield (w.heap.size + 1)) #[] #[]] ++ caps.toArray by rw [← Array.toList_inj]; simp] at hcl
   refine CallsIn.mono (F := Fr none) (n := 0) hcl ?_
   rintro e W2 ⟨v, H', rfl, ⟨⟨x, j⟩, hend, rfl⟩, hs2', _⟩
   have pAH := (List.pairwise_append.1 hsC.apart).2.2
   have hs2'' : Sat w0 mu ((De :: Hm) ++ Ho' (x, j)) W2 := frame_out hsC hs2' (fun e he => by
    rcases List.mem_cons.1 he with rfl | he
    · exact .inl trivial
    · rcases hro x0 x e he with h | h
      · exact .inl h
      · exact .inr fun a ha hw => pAH a ha e (List.mem_append_right _ (List.mem_cons_of_mem _ h)) (.inl hw))
   have hs2 : Sat w0 mu (⟨w.heap.size + 1, 0, .obj (.loop (rec (if j.isNone then .ready else .done) j)), []⟩ :: ((De :: Hm) ++ Ho x)) W2 := hs2''.perm List.perm_middle
   have hstate : ((rec (if j.isNone then .ready else .done) j)).state ≠ .busy := by rw [hrec]; cases j <;> simp
   have hend1 := run_endLoop (P := P) (r := rec (if j.isNone then .ready else .done) j) hs2.objAt hstate
   have hpend : (rec (if j.isNone then .ready else .done) j).pending = j := by rw [hrec]
   rw [hpend] at hend1
   refine ⟨j, _, hend1, ?_⟩
   have hs3 : ∀ o', Sat w0 mu (De :: (Hm ++ Ho x)) (W2.putObj (w.heap.size + 1) o') := fun o' => hs2.dropObj
   have hfr : fresh w.heap.size (Hm ++ Ho x) := by
    obtain ⟨p1, _⟩ := List.pairwise_cons.1 (hs3 (.deferred none)).apart
    exact fresh_of fun e he hh => p1 e he (.inl trivial) hh.symm
   have ht3 : TRel n T { a with defers := [{ target := .collected w.heap.size, args := #[] }] ++ a.defers } := ⟨ht.size, ht.get⟩
   have hd3 : ([{ target := .collected w.heap.size, args := #[] }] ++ a.defers : List Deferred) = defersOf (De :: (Hm ++ Ho x)) := by
    rw [hd]
    simp [defersOf, marksOf, De, marks_append, hmk, hmH]
   rcases hend with ⟨hi, hj⟩ | ⟨c, hj, hst⟩
   · dsimp only at hj
     subst hj
     exact ⟨T, _, done w.heap.size x hfr hi, ht3, hs3 _, hd3⟩
   · dsimp only at hj
     subst hj
     exact evC_ok hG hmix c K T _ (hpc c x hst) (stop w.heap.size c x hfr hst) w0 mu _ _ (RoundOk.none_ _ _) ht3 (hs3 _) hd3
theorem rangeNO {P : Program} {G : Gam} (hG : GamOk P G) (hmix : P.follows .mixedOrders = true) {pl : Plans} {n : Nat} {g : Operand} {ps : Array Tmp} {assign body : Code} {K : Exit → Tm → Hp → Prop} {T : Tm} {H : Hp} {gf : FuncId} {caps : List Value} {Hc Hm : Hp} {num : Nat} {V : Nat → List Value → Hp → Prop}
  (hit : IterN P gf caps Hc num V) (hg : opd T g = some (.func (.func gf) #[] caps.toArray)) {X : Type} (Ho : X → Hp) (I : Nat → X → Prop) (Stop : Code → X → Prop) (x0 : X) (h0 : I 0 x0)
  (hH : subH H (Hc ++ (Hm ++ Ho x0))) (hmH : marksOf H = marksOf Hm) (hmc : marksOf Hc = []) (hmm : ∀ e ∈ Hm, e.wr) (hmk : ∀ x, marksOf (Ho x) = []) (hro : ∀ x y, ∀ e ∈ Ho y, e.wr ∨ e ∈ Ho x) (hps : ∀ k args N, V k args N → args.length = ps.size) (hpa : plansOk pl assign = true) (hpb : plansOk pl body = true) (hpc : ∀ c x, Stop c x → plansOk pl c = true)
  (hb : ∀ l k x args N, k < num → V k args N → allWr N → marksOf N = [] → freshN N (Ho x) → I k x → oC P G pl (some l) n assign (thenK (bKont P G pl (some l) n body (roundK Ho I Stop k) (N ++ Ho x)) (fun _ _ _ => False)) (parT n T ps.toList args) (N ++ Ho x))
  (done : ∀ D x, fresh D (Hm ++ Ho x) → I num x → K .normal T (⟨D, 0, .obj (.deferred (some [])), []⟩ :: (Hm ++ Ho x)))
  (stop : ∀ D c x, fresh D (Hm ++ Ho x) → Stop c x → oC P G pl none n c K T (⟨D, 0, .obj (.deferred (some [])), []⟩ :: (Hm ++ Ho x))) : WpV P none n (.rangeFunc g ps assign body) K T H := by
 unfold bKont at hb
 simp only [oC_eq] at hb stop
 exact rangeN hG hmix hit hg Ho I Stop x0 h0 hH hmH hmc hmm hmk hro hps hpa hpb hpc hb done stop
end Go.Ev
namespace Go.Ev
def itTx (l : List UInt8) : It := .mk false l []
noncomputable def itNm (w : W) : It := .mk false (numL w) []
noncomputable def itS (s : Sl) : It := .mk true [] [itNm s.key, itNm s.val]
noncomputable def itA (a : Ac) : It := .mk true [] [itTx a.at_.l, itNm (W.ofInt a.nonce), itNm a.bal, itTx a.code.data.toList, .mk true [] (a.slots.map itS)]
noncomputable def itSt (s : List Ac) : It := .mk true [] (s.map itA)
def ivTx (l : List UInt8) : Iv := .mk false l (.slice none 0 0) []
theorem ivTx_ok (M : Hp) (l : List UInt8) : IvOk M (ivTx l) := IvOk.text M l false 0
theorem ivTx_it (l : List UInt8) : (ivTx l).it = itTx l := by unfold ivTx itTx; simp only [Iv.it, Iv.its]
def ivLs (sv : Value) (ks : List Iv) : Iv := .mk true [] sv ks
theorem ivLs_it (sv : Value) (ks : List Iv) : (ivLs sv ks).it = .mk true [] (ks.map Iv.it) := by unfold ivLs; simp only [Iv.it]; rw [Iv.its_map]
theorem ivLs_ok {M : Hp} {sv : Value} {ks : List Iv} (h1 : LiR Iv.cells 3 M ks sv) (h2 : ks.length ≤ 1099511627776) (h3 : ∀ k ∈ ks, IvOk M k) : IvOk M (ivLs sv ks) := .mk _ h1 h2 h3
def rlistG : List Value → Option Value
 | [.slice p n c] => some (.agg #[.bool true, .string (bs []), .slice p n c])
 | _ => none
attribute [push_cast] rlistG
theorem LiR.vecI {ks : List Iv} {b n e cap : Nat} {H : Hp} (hn : n = ks.length) : LiR Iv.cells 3 (⟨b, 0, .vec e 3 cap, ks.flatMap Iv.cells⟩ :: H) ks (.slice (some ⟨b, 0, none⟩) n cap) := by
 subst hn
 refine ⟨_, _, rfl, .inr ⟨b, 0, rfl, ?_⟩⟩
 have hl : (ks.flatMap Iv.cells).length = ks.length * 3 := flatMap_len Iv.len ks
 unfold cellsAt
 simp only [findE, if_true, Nat.sub_zero, subL, List.drop_zero, Nat.zero_add, Nat.le_refl, hl]
 rw [List.take_of_length_le (Nat.le_of_eq hl)]
def ItQ (t : It) : Value → Hp → Prop := fun v H => ∃ x : Iv, v = x.v ∧ x.it = t ∧ IvOk H x
def ItsQ (l : List It) : Value → Hp → Prop := fun v H => ∃ ks : List Iv, ks.map Iv.it = l ∧ LiR Iv.cells 3 H ks v ∧ ∀ k ∈ ks, IvOk H k
theorem freshN_nilR : ∀ N : Hp, freshN N []
 | [] => trivial
 | e :: r => ⟨trivial, freshN_nilR r⟩
theorem Ext.leftN {N M : Hp} (h1 : marksOf N = []) (h2 : marksOf M = []) : Ext N (N ++ M) := by
 refine ⟨by rw [marks_append, h1, h2]; rfl, fun b o n l h => ?_⟩
 unfold cellsAt at h ⊢
 cases hf : findE N b with
 | none => rw [hf] at h; cases h
 | some e => rw [findE_appT hf]; rw [hf] at h; exact h
theorem Ext.rightN {N M : Hp} (hf : freshN N M) (h1 : marksOf N = []) (h2 : marksOf M = []) : Ext M (N ++ M) := by
 refine ⟨by rw [marks_append, h1, h2]; rfl, fun b o n l h => ?_⟩
 unfold cellsAt at h ⊢
 cases hm : findE M b with
 | none => rw [hm] at h; cases h
 | some e => rw [findE_freshN hf hm, hm]; rw [hm] at h; exact h
def CallsO (P : Program) (g : FuncId) (args : List Value) (M : Hp) (Q : Value → Hp → Prop) : Prop :=
 ∀ M0, roM M0 → cellsAt M0 = cellsAt M → CallsV P g args M0 (fun v N => allWr N ∧ marksOf N = [] ∧ Q v N)
theorem callO {P : Program} {g : FuncId} {args : List Value} {M Y : Hp} {Q : Value → Hp → Prop} {K' : Value → Hp → Prop} (hc : CallsO P g args M Q) (hd : ∀ b e, findE M b = some e → findE Y b = some e)
  (hk : ∀ v N, allWr N → marksOf N = [] → freshN N Y → Q v N → K' v (N ++ Y)) : CallsV P g args Y K' :=
 (hc (roAll M) (roAll_ro M) (cellsAt_roAll M)).use (derE_sub hd) fun v N ⟨h1, h2, h3⟩ => ⟨h1, h2, fun hf => hk v N h1 h2 hf h3⟩
end Go.Ev
namespace Go.Proofs.YtpcjmmdgopihcaaGreatDoor
open Go Go.Ev Go.Proofs
theorem rlist_ok (p : Option Addr) (n c : Nat) : CallsV Tryz.prog 53 [.slice p n c] [] (Ret0 (.agg #[.bool true, .string (bs []), .slice p n c])) := by
 refine callsO gN3_ok Tryz.mix Tryz.pl53 Tryz.func53 rfl Tryz.ntmps53 Tryz.results53 rfl (by first | rfl | assumption) (Nat.le_of_ble_eq_true rfl) (by kernel_rfl) ?_
 simp only [push_cast, seval, reduceCtorEq]
 try exact rfl
theorem rlistG_ok (args : List Value) (v : Value) (h : rlistG args = some v) : CallsV Tryz.prog 53 args [] (Ret0 v) := by
 unfold rlistG at h
 split at h
 · cases h; exact rlist_ok _ _ _
 · cases h
noncomputable def gN4 : Gam := (addG 53 rlistG gN3)
attribute [push_cast] gN4
theorem gN4_ok : GamOk Tryz.prog gN4 := (addG_ok rlistG_ok gN3_ok)
attribute [push_cast] gN4
theorem slotItem_ok (s : Sl) : CallsV Tryz.prog 74 [s.v] [] (NewK [] (ItQ (itS s))) := by
 have t1 : List.take 4 s.cells = s.key.cells := rfl
 have t2 : List.take 4 (List.drop 4 s.cells) = s.val.cells := rfl
 have va : ∀ w : W, Value.agg w.cells.toArray = w.v := fun _ => rfl
 have hA : ∀ w : W, (Value.agg #[Value.bool false, Value.string (bs (numL w)), Value.slice none 0 0]) = (ivTx (numL w)).v := fun _ => rfl
 refine callsO gN4_ok Tryz.mix Tryz.pl74 Tryz.func74 rfl Tryz.ntmps74 Tryz.results74 rfl (by first | rfl | assumption) (Nat.le_of_ble_eq_true rfl) (by kernel_rfl) ?_
 simp only [push_cast, seval, reduceCtorEq]
 intro b1 b2 hb2
 simp only [push_cast, seval, reduceCtorEq, hb2, t1, t2, va, Sl.len]
 intro b3 hb3
 simp only [push_cast, seval, reduceCtorEq, hb2, hb3]
 have hks : ([ivTx (numL s.key), ivTx (numL s.val)] : List Iv).flatMap Iv.cells = [.bool false, .string (bs (numL s.key)), .slice none 0 0, .bool false, .string (bs (numL s.val)), .slice none 0 0] := rfl
 have hkm : ∀ (H : Hp), ∀ k ∈ ([ivTx (numL s.key), ivTx (numL s.val)] : List Iv), IvOk H k := fun H k hk => by
  simp only [List.mem_cons, List.not_mem_nil, or_false] at hk
  rcases hk with rfl | rfl <;> exact ivTx_ok _ _
 refine ⟨[_], List.cons_sublist_cons.2 (List.nil_sublist _), ⟨trivial, trivial⟩, rfl, fun _ => ⟨ivLs (.slice (some ⟨b3, 0, none⟩) 2 2) [ivTx (numL s.key), ivTx (numL s.val)], rfl, ?_, ?_⟩⟩
 · rw [ivLs_it]
   simp only [List.map_cons, List.map_nil, ivTx_it]
   rfl
 · refine ivLs_ok ?_ (show 2 ≤ 1099511627776 by decide) (hkm _)
   rw [← hks]
   exact LiR.vecI rfl
theorem mappedS_ok {M : Hp} {l : List Sl} {v : Value} (hl : LiR Sl.cells 8 M l v) (hn : l.length ≤ 1099511627776) : CallsO Tryz.prog 79 [v, .func (.func 74) #[] #[]] M (ItsQ (l.map itS)) := by
 intro M0 hr he
 have hm := hr.marks
 replace hl := hl.congr he.symm
 obtain ⟨p, k, rfl, hla⟩ := hl.openC Sl.len (by decide)
 refine callsO gN4_ok Tryz.mix Tryz.pl79 Tryz.func79 rfl Tryz.ntmps79 Tryz.results79 rfl (by first | rfl | assumption) (Nat.le_of_ble_eq_true rfl) (by kernel_rfl) ?_
 simp only [push_cast, seval, reduceCtorEq]
 refine loopO gN4_ok (pl := Tryz.pl79) Tryz.mix (X := {x : Nat × Value × Hp × List Iv × Hp // allWr x.2.2.2.2 ∧ marksOf x.2.2.2.2 = []})
  (fun x => ([(1, .func (.func 74) #[] #[]), (5, x.1.2.1), (8, .slice p l.length k), (9, .int .i64 l.length), (10, .int .i64 x.1.1)], x.1.2.2.1 ++ (x.1.2.2.2.2 ++ M0)))
  (fun x => x.1.1 ≤ l.length ∧ x.1.2.2.2.1.map Iv.it = (l.take x.1.1).map itS ∧ OutC 90 3 (x.1.2.2.2.1.flatMap Iv.cells) x.1.2.2.2.1.length x.1.2.1 x.1.2.2.1 ∧ freshN x.1.2.2.1 (x.1.2.2.2.2 ++ M0) ∧ freshN x.1.2.2.2.2 M0 ∧ ∀ y ∈ x.1.2.2.2.1, IvOk x.1.2.2.2.2 y) (fun x => l.length - x.1.1) ⟨(0, .slice none 0 0, [], [], []), trivial, rfl⟩ ?_ ?_ (by kernel_rfl) ?_
 · exact ⟨Nat.zero_le _, rfl, .nil _ _, trivial, trivial, fun y hy => by cases hy⟩
 · simp only [push_cast, seval, reduceCtorEq]
   first | done | exact rfl | exact ⟨rfl, subH_self _⟩ | exact subH_self _
 · rintro ⟨⟨i, vo, No, ks, W'⟩, hW, hWm⟩ ⟨hi, hks, ho, hf, hfW, hok⟩
   dsimp only at hi hks ho hf hfW hok hW hWm ⊢
   have hmW : marksOf (W' ++ M0) = [] := by rw [marks_append, hWm, hm]; rfl
   have hmA : marksOf (No ++ (W' ++ M0)) = [] := by rw [marks_append, ho.wr.2, hmW]; rfl
   have hkl : ks.length = i := by
    have := congrArg List.length hks
    rw [List.length_map, List.length_map, List.length_take, Nat.min_eq_left hi] at this
    exact this
   rcases Nat.lt_or_ge i l.length with hlt | hge
   · obtain ⟨s, hs⟩ : ∃ s, l[i]? = some s := ⟨l[i], List.getElem?_eq_getElem hlt⟩
     rcases hla with rfl | ⟨b, f, d, kd, cs, rfl, hfe, hat⟩
     · simp at hs
     obtain ⟨a1, a2⟩ := hat i s hs
     have hee : findE (No ++ (W' ++ M0)) b = some ⟨b, f, kd, cs⟩ := find_behindN hf b _ (find_behindN hfW b _ hfe)
     have i1 : (i : Int) < (l.length : Int) := by omega
     have sall : s.cells.all oneC = true := rfl
     have s8 : List.take 8 s.cells = s.cells := List.take_of_length_le (Nat.le_of_eq rfl)
     obtain ⟨po, ko, rfl⟩ := ho.slice
     simp only [push_cast, seval, reduceCtorEq, i1, hlt, hee, a1, a2, sall, s8, Sl.len]
     intro b7 hb7
     try simp only [push_cast, seval, reduceCtorEq, s8, Sl.len]
     refine (slotItem_ok s).use trivial ?_
     rintro v N ⟨hN1, hN2, hN3⟩
     obtain ⟨x, rfl, hxi, hxo⟩ := hN3 (freshN_nilR N)
     rw [List.append_nil] at hxo
     refine ⟨hN1, hN2, fun hfn => ?_⟩
     have xall : x.cells.all oneC = true := Iv.all1 hxo.one
     have xv : x.v.cells.toList = x.cells := rfl
     simp only [push_cast, seval, reduceCtorEq, xv, Iv.len, xall]
     intro b18 hb18
     obtain ⟨E7, hE7⟩ : ∃ E : Ent, E = ⟨b7, 0, .cel 67, s.cells⟩ := ⟨_, rfl⟩
     rw [← hE7] at hb18 hfn ⊢
     have f18 := (fresh_app hb18).2.2
     have f7 : fresh E7.blk (No ++ (W' ++ M0)) := by rw [hE7]; exact hb7
     have fNX := freshN_cons hfn
     have fN : ∀ {A : Hp} {B : Hp}, freshN N (A ++ B) → freshN N A ∧ freshN N B := fun h => ⟨freshN_iff.2 fun e he x hx => freshN_iff.1 h e he x (List.mem_append_left _ hx), freshN_iff.2 fun e he x hx => freshN_iff.1 h e he x (List.mem_append_right _ hx)⟩
     rw [show (N ++ E7 :: (No ++ (W' ++ M0)) : Hp) = (N ++ [E7]) ++ (No ++ (W' ++ M0)) by simp]
     refine push_outA (c := Iv.cells) (x := x) (by_ := 48) (q := 3) (ag := true) (N ++ [E7]) ho ⟨(fresh_app_iff.1 f18).1, freshN_appL.2 ⟨(fN fNX).1, (fresh_app_iff.1 f7).1, trivial⟩⟩ (by simp only [push_cast, seval, reduceCtorEq]) (by simp only [push_cast, seval, reduceCtorEq]) (Iv.len _) xall (by unfold two47; omega) fun v' N' ho' hf' => ?_
     simp only [push_cast, seval, reduceCtorEq, wrap_i64' (show -9223372036854775808 ≤ (i : Int) + 1 ∧ (i : Int) + 1 ≤ 9223372036854775807 by omega)]
     have hfW2 : freshN (⟨b18, 0, .vec 90 3 1, x.cells⟩ :: ((N ++ [E7]) ++ W')) M0 := ⟨(fresh_app_iff.1 (fresh_app_iff.1 f18).2).2, freshN_appL.2 ⟨freshN_appL.2 ⟨(fN (fN fNX).2).2, (fresh_app_iff.1 (fresh_app_iff.1 f7).2).2, trivial⟩, hfW⟩⟩
     have mE : marksOf [E7] = [] := by rw [hE7]; rfl
     have hmN7 : marksOf (N ++ [E7]) = [] := by rw [marks_append, hN2, mE]; rfl
     have hmW2 : marksOf ((N ++ [E7]) ++ W') = [] := by rw [marks_append, hmN7, hWm]; rfl
     refine ⟨⟨(i + 1, v', N', ks ++ [x], ⟨b18, 0, .vec 90 3 1, x.cells⟩ :: ((N ++ [E7]) ++ W')), ⟨trivial, allWr_app (allWr_app hN1 (by rw [hE7]; exact ⟨trivial, trivial⟩)) hW⟩, ?_⟩, ⟨hlt, ?_, ho', ?_, hfW2, fun y hy => ?_⟩, by dsimp only; omega, ?_⟩
     · exact hmW2
     · rw [List.map_append, hks, List.take_add_one, hs, List.map_append]; simp [hxi]
     · show freshN N' ((⟨b18, 0, .vec 90 3 1, x.cells⟩ :: ((N ++ [E7]) ++ W')) ++ M0)
       rw [List.cons_append, List.append_assoc]; exact hf'
     · show IvOk (⟨b18, 0, .vec 90 3 1, x.cells⟩ :: ((N ++ [E7]) ++ W')) y
       rcases List.mem_append.1 hy with hy | hy
       · exact (hok y hy).ext (Ext.rightN (N := ⟨b18, 0, .vec 90 3 1, x.cells⟩ :: (N ++ [E7])) ⟨(fresh_app_iff.1 (fresh_app_iff.1 f18).2).1, freshN_appL.2 ⟨(fN (fN fNX).2).1, (fresh_app_iff.1 (fresh_app_iff.1 f7).2).1, trivial⟩⟩ hmN7 hWm)
       · rw [List.mem_singleton.1 hy]
         have e1 : Ext N ((N ++ [E7]) ++ W') := by rw [List.append_assoc]; exact Ext.leftN hN2 (by rw [marks_append, mE, hWm]; rfl)
         exact (hxo.ext e1).ext (Ext.cons e1.marks rfl (fresh_app_iff.2 ⟨fresh_app_iff.2 ⟨(fresh_app_iff.1 hb18).1, (fresh_app hb18).1, (fresh_app hb18).2.1, trivial⟩, (fresh_app_iff.1 (fresh_app_iff.1 f18).2).1⟩))
     · simp only [List.cons_append, List.append_assoc, List.nil_append]
       exact ⟨⟨trivial, rfl⟩, subH_self _, trivial⟩
   · obtain rfl : i = l.length := by omega
     rw [List.take_length] at hks
     simp only [push_cast, seval, reduceCtorEq, Int.lt_irrefl]
     have hfNW : freshN No W' := freshN_iff.2 fun e he x hx => freshN_iff.1 hf e he x (List.mem_append_left _ hx)
     refine ⟨No ++ W', ?_, allWr_app ho.wr.1 hW, by rw [marks_append, ho.wr.2, hWm]; rfl, ks, hks, ?_, fun y hy => ?_⟩
     · rw [dropM_eq hmA, ← List.append_assoc]; exact List.sublist_append_left _ _
     · exact ho.liR rfl rfl _
     · exact (hok y hy).ext (Ext.rightN hfNW ho.wr.2 hWm)
end Go.Proofs.YtpcjmmdgopihcaaGreatDoor
namespace Go.Ev
def rot2 (x k : Nat) : Nat := ((x * 2 ^ k) % 18446744073709551616) ||| (x / 2 ^ (64 - k))
def thC2 (a : List Nat) : Nat → List Nat
 | 0 => List.replicate 5 0
 | k + 1 => let c := thC2 a k; c.set (k % 5) (ln c (k % 5) ^^^ ln a k)
def thA2 (a c : List Nat) : Nat → List Nat
 | 0 => a
 | k + 1 => let z := thA2 a c k; z.set k (ln z k ^^^ (ln c ((k % 5 + 4) % 5) ^^^ rot2 (ln c ((k % 5 + 1) % 5)) 1))
def tnS2 (a : List Nat) : Nat → Nat × Nat × List Nat
 | 0 => (1, 0, (List.replicate 25 0).set 0 (ln a 0))
 | t + 1 => let s := tnS2 a t; (s.2.1, (2 * s.1 + 3 * s.2.1) % 5, s.2.2.set (5 * ((2 * s.1 + 3 * s.2.1) % 5) + s.2.1) (rot2 (ln a (5 * s.2.1 + s.1)) ((t + 1) * (t + 2) / 2 % 64)))
def chS2 (a : List Nat) : Nat → List Nat
 | 0 => List.replicate 25 0
 | k + 1 => (chS2 a k).set k (ln a k ^^^ (ln a (5 * (k / 5) + (k % 5 + 2) % 5) &&& (18446744073709551615 - ln a (5 * (k / 5) + (k % 5 + 1) % 5))))
def rd2 (a : List Nat) (c : Nat) : List Nat := let b := chS2 (tnS2 (let z := thC2 a 25; thA2 a z 25) 24).2.2 25; b.set 0 (ln b 0 ^^^ c)
def pmS2 (a : List Nat) : Nat → List Nat
 | 0 => a
 | k + 1 => rd2 (pmS2 a k) (ln consK k)
def abS2 (a : List Nat) (b : List UInt8) : Nat → List Nat
 | 0 => a
 | i + 1 => let z := abS2 a b i; z.set i (ln z i ^^^ lowN ((b.drop (8 * i)).take 8))
theorem thC2_eq (a : List Nat) : ∀ k, thC a k = thC2 a k
 | 0 => rfl
 | k + 1 => by rw [thC, thC2, thC2_eq a k, xorN_eq]
theorem thA2_eq (a c : List Nat) : ∀ k, thA a c k = thA2 a c k
 | 0 => rfl
 | k + 1 => by rw [thA, thA2, thA2_eq a c k, xorN_eq, xorN_eq, rot_eq]; rfl
theorem tnS2_eq (a : List Nat) : ∀ k, tnS a k = tnS2 a k
 | 0 => rfl
 | k + 1 => by rw [tnS, tnS2, tnS2_eq a k, rot_eq]; rfl
theorem chS2_eq (a : List Nat) : ∀ k, chS a k = chS2 a k
 | 0 => rfl
 | k + 1 => by rw [chS, chS2, chS2_eq a k, xorN_eq, anN_eq]
theorem pmS2_eq (a : List Nat) : ∀ k, pmS a k = pmS2 a k
 | 0 => rfl
 | k + 1 => by rw [pmS, pmS2, pmS2_eq a k, chiK_eq, turnK_eq, thetaK_eq, xorN_eq, chS2_eq, tnS2_eq, thA2_eq, thC2_eq]; rfl
theorem abS2_eq (a : List Nat) (b : List UInt8) : ∀ k, abS a b k = abS2 a b k
 | 0 => rfl
 | k + 1 => by rw [abS, abS2, abS2_eq a b k, xorN_eq]
theorem keccK_one (l : List UInt8) (h : l.length = 1) : keccK l = ouS (pmS2 (abS2 (List.replicate 25 0) ((padK l).take 136) 17) 24) 32 := by
 have hl : (padK l).length = 136 := by rw [padK_len, h]; rfl
 rw [keccK_eq, hl, show 136 / 136 = 1 from rfl, sumS, sumS, permK_eq, pmS2_eq, abS2_eq, Nat.mul_zero, List.drop_zero]
def ou2 (a : List Nat) : Nat → List UInt8
 | 0 => List.replicate 32 0
 | i + 1 => (ou2 a i).set i (UInt8.ofNat (ln a (i / 8) / 256 ^ (i % 8) % 256))
theorem ou2_eq (a : List Nat) : ∀ k, ouS a k = ou2 a k
 | 0 => rfl
 | k + 1 => by rw [ouS, ou2, ou2_eq a k]
def pad2 (l : List UInt8) : List UInt8 := orL (padJ l (padJ_many l.length))
theorem kecc_c0 : (keccK [192]).take 2 = [29, 204] := by
 rw [keccK_one _ rfl, ou2_eq, show padK [192] = pad2 [192] from rfl]
 decide +kernel
end Go.Ev
