/- Texts of this claim, merged by program: Mi Nl Nm Io Iq Nn Mj Mm. -/
import Derived.Test.YtpcjmmdgopihcaaGreatDoorZgAr
import Derived.Test.YtpcjmmdgopihcaaGreatDoorZgAu
import Derived.Test.YtpcjmmdgopihcaaGreatDoorZgAv
set_option linter.unusedSimpArgs false
set_option linter.unusedVariables false
set_option maxRecDepth 100000
set_option maxHeartbeats 4000000
namespace Go.Proofs.YtpcjmmdgopihcaaGreatDoor
open Go Go.Ev Go.Proofs
theorem reftxt_ok (b : ByteArray) : CallsV Tryz.prog 88 [.string b] [] (Ret0 (.agg #[.bool false, .string b, .slice none 0 0])) := by
 refine callsO gO8_ok Tryz.mix Tryz.pl88 Tryz.func88 rfl Tryz.ntmps88 Tryz.results88 rfl (by first | rfl | assumption) (Nat.le_of_ble_eq_true rfl) (by kernel_rfl) ?_
 simp only [push_cast, seval, reduceCtorEq]
 first | done | rfl
theorem reftxtG_ok (args : List Value) (v : Value) (h : rtextG args = some v) : CallsV Tryz.prog 88 args [] (Ret0 v) := by
 unfold rtextG at h
 split at h
 · cases h; exact reftxt_ok _
 · cases h
theorem reflst_ok (p : Option Addr) (n c : Nat) : CallsV Tryz.prog 86 [.slice p n c] [] (Ret0 (.agg #[.bool true, .string (bs []), .slice p n c])) := by
 refine callsO gO8_ok Tryz.mix Tryz.pl86 Tryz.func86 rfl Tryz.ntmps86 Tryz.results86 rfl (by first | rfl | assumption) (Nat.le_of_ble_eq_true rfl) (by kernel_rfl) ?_
 simp only [push_cast, seval, reduceCtorEq]
 first | done | rfl
theorem reflstG_ok (args : List Value) (v : Value) (h : rlistG args = some v) : CallsV Tryz.prog 86 args [] (Ret0 v) := by
 unfold rlistG at h
 split at h
 · cases h; exact reflst_ok _ _ _
 · cases h
noncomputable def gM1 : Gam := (addG 86 rlistG (addG 88 rtextG gO8))
attribute [push_cast] gM1
theorem gM1_ok : GamOk Tryz.prog gM1 := (addG_ok reflstG_ok (addG_ok reftxtG_ok gO8_ok))
attribute [push_cast] gM1
attribute [-push_cast] evAppend_nil evAppend_some slAddr
def plItm : Plans := fun i => if i = 10 then [] else if i = 16 then [] else Tryz.pl58 i
attribute [push_cast] plItm
theorem refitemS_ok {M : Hp} {s : List Ac} {v : Value} (hv : StR s v M) (hn : s.length ≤ 1000000) (hsl : ∀ y ∈ s, y.slots.length ≤ 1000000) (hnc : ∀ y ∈ s, -9223372036854775808 ≤ y.nonce ∧ y.nonce ≤ 9223372036854775807) : CallsO Tryz.prog 58 [v] M (ItQ (itSt s)) := by
 intro M0 hr he
 have hm := hr.marks
 have hv0 : StR s v M0 := StR.rd _ _ _ _ he.symm hv
 obtain ⟨L, rfl, hL, hLs⟩ := hv0
 have hlen : (L.map (·.1)).length = L.length := List.length_map _
 rw [hlen] at hn
 obtain ⟨p, c, rfl, hla⟩ := hL.openA
 refine callsO gM1_ok Tryz.mix plItm Tryz.func58 rfl Tryz.ntmps58 Tryz.results58 rfl (by first | rfl | assumption) (Nat.le_of_ble_eq_true rfl) (by kernel_rfl) ?_
 simp only [push_cast, seval, reduceCtorEq]
 intro b2 hb2 b3 hb3
 try simp only [push_cast, seval, reduceCtorEq, hb2, hb3]
 refine loopO gM1_ok (pl := plItm) Tryz.mix (X := {x : Nat × Value × Hp × List Iv × Hp // allWr x.2.2.2.2 ∧ marksOf x.2.2.2.2 = []})
  (fun x => ([(0, .slice p L.length c), (2, .pointer (some ⟨b2, 0, none⟩)), (3, .pointer (some ⟨b3, 0, none⟩)), (4, .int .i64 x.1.1)], ⟨b3, 0, .cel 90, [.bool true, .string (bs []), x.1.2.1]⟩ :: ⟨b2, 0, .cel 90, [.bool false, .string (bs []), .slice none 0 0]⟩ :: (x.1.2.2.1 ++ (x.1.2.2.2.2 ++ M0))))
  (fun x => x.1.1 ≤ L.length ∧ x.1.2.2.2.1.map Iv.it = ((L.map (·.1)).take x.1.1).map itA ∧ OutC 90 3 (x.1.2.2.2.1.flatMap Iv.cells) x.1.2.2.2.1.length x.1.2.1 x.1.2.2.1 ∧ freshN x.1.2.2.1 (x.1.2.2.2.2 ++ M0) ∧ freshN x.1.2.2.2.2 M0 ∧ (∀ y ∈ x.1.2.2.2.1, IvOk x.1.2.2.2.2 y) ∧ fresh b3 (x.1.2.2.1 ++ (x.1.2.2.2.2 ++ M0)) ∧ fresh b2 (x.1.2.2.1 ++ (x.1.2.2.2.2 ++ M0))) (fun x => L.length - x.1.1)
  ⟨(0, .slice none 0 0, [], [], []), trivial, rfl⟩ ?_ ?_ (by kernel_rfl) ?_
 · refine ⟨Nat.zero_le _, rfl, .nil _ _, trivial, trivial, (fun y hy => by cases hy), hb3.2.2, hb2⟩
 · simp only [push_cast, seval, reduceCtorEq, hb2, hb3]
   exact ⟨rfl, rfl⟩
 · rintro ⟨⟨i, vo, No, ks, W'⟩, hW, hWm⟩ ⟨hi, hks, ho, hf, hfW, hok, g3, g2⟩
   dsimp only at hi hks ho hf hfW hok hW hWm g3 g2 ⊢
   obtain ⟨po, co, rfl⟩ := ho.slice
   have hmW : marksOf (W' ++ M0) = [] := by rw [marks_append, hWm, hm]; rfl
   have hmA : marksOf (No ++ (W' ++ M0)) = [] := by rw [marks_append, ho.wr.2, hmW]; rfl
   have hkl : ks.length = i := by
    have := congrArg List.length hks
    rw [List.length_map, List.length_map, List.length_take, hlen, Nat.min_eq_left hi] at this
    exact this
   rcases Nat.lt_or_ge i L.length with hlt | hge
   · obtain ⟨⟨a, sv⟩, hx⟩ : ∃ x, L[i]? = some x := ⟨L[i], List.getElem?_eq_getElem hlt⟩
     rcases hla with rfl | ⟨bb, f, d, kd, cs, rfl, he, hat⟩
     · simp at hx
     obtain ⟨aq, a1, a2⟩ := hat i _ hx
     have hxs := hLs _ (List.mem_of_getElem? hx)
     have ham : a ∈ L.map (·.1) := List.mem_map_of_mem (f := (·.1)) (List.mem_of_getElem? hx)
     have hsa := hsl a ham
     obtain ⟨n1, n2⟩ := hnc a ham
     dsimp only at hxs hsa n1 n2
     obtain ⟨ps, kps, rfl, hsla⟩ := hxs.openC Sl.len (by decide)
     obtain ⟨q26a, q26⟩ := aq 26 1 (by decide)
     have hee : findE (No ++ (W' ++ M0)) bb = some ⟨bb, f, kd, cs⟩ := find_behindN hf bb _ (find_behindN hfW bb _ he)
     obtain ⟨Y, hY⟩ : ∃ Y, Y = No ++ (W' ++ M0) := ⟨_, rfl⟩
     rw [← hY] at hmA hee g3 g2 ⊢
     have i1 : (i : Int) < (L.length : Int) := by omega
     have d3 := (fresh_findS g3 hee).2
     have d2 := (fresh_findS g2 hee).2
     simp only [push_cast, seval, reduceCtorEq, i1, hlt, hmA]
     intro b5 hb5
     obtain ⟨E3, hE3⟩ : ∃ e : Ent, e = ⟨b3, 0, .cel 90, [.bool true, .string (bs []), .slice po ks.length co]⟩ := ⟨_, rfl⟩
     obtain ⟨E2, hE2⟩ : ∃ e : Ent, e = ⟨b2, 0, .cel 90, [.bool false, .string (bs []), .slice none 0 0]⟩ := ⟨_, rfl⟩
     rw [← hE3, ← hE2]
     have fB : ∀ {q : Nat} {e : Ent}, findE Y q = some e → findE (E3 :: E2 :: Y) q = some e := fun {q e} h => by
      rw [findE, if_neg (by rw [hE3]; exact (fresh_findS g3 h).2), findE, if_neg (by rw [hE2]; exact (fresh_findS g2 h).2)]
      exact h
     have fZ := fB hee
     have mZ : marksOf (E3 :: E2 :: Y) = [] := by rw [hE3, hE2]; exact hmA
     have fM : ∀ {q : Nat} {e : Ent}, findE M0 q = some e → findE (E3 :: E2 :: Y) q = some e := fun {q e} h => fB (by rw [hY]; exact find_behindN hf q _ (find_behindN hfW q _ h))
     have hb5' : fresh b5 (E3 :: E2 :: Y) := by
      rw [hE3, hE2]; exact hb5
     obtain ⟨Z, hZ⟩ : ∃ Z, Z = E3 :: E2 :: Y := ⟨_, rfl⟩
     rw [← hZ] at fZ mZ fM hb5' ⊢
     obtain ⟨ag1, ag2, ag3, ag4, ag5, ag6⟩ := Ac.get a (.slice ps a.slots.length kps)
     have c27 : acC (a, (.slice ps a.slots.length kps : Value)) = a.cells (.slice ps a.slots.length kps) := rfl
     rw [c27] at q26
     try rw [ag5] at q26
     have db := (fresh_findS hb5' fZ).2
     have e26 : f + d + i * 27 + 26 - f = d + i * 27 + 26 := by omega
     refine loopO gM1_ok (pl := plItm) Tryz.mix (X := {x : Nat × Value × Hp × List Iv × Hp // allWr x.2.2.2.2 ∧ marksOf x.2.2.2.2 = []})
      (fun x => ([(0, .slice (some ⟨bb, f + d, none⟩) L.length c), (2, .pointer (some ⟨b2, 0, none⟩)), (3, .pointer (some ⟨b3, 0, none⟩)), (4, .int .i64 i), (5, .pointer (some ⟨b5, 0, none⟩)), (6, .int .i64 x.1.1)], ⟨b5, 0, .cel 90, [.bool true, .string (bs []), x.1.2.1]⟩ :: (x.1.2.2.1 ++ (x.1.2.2.2.2 ++ Z))))
      (fun x => x.1.1 ≤ a.slots.length ∧ x.1.2.2.2.1.map Iv.it = (a.slots.take x.1.1).map itS ∧ OutC 90 3 (x.1.2.2.2.1.flatMap Iv.cells) x.1.2.2.2.1.length x.1.2.1 x.1.2.2.1 ∧ freshN x.1.2.2.1 (x.1.2.2.2.2 ++ Z) ∧ freshN x.1.2.2.2.2 Z ∧ (∀ y ∈ x.1.2.2.2.1, IvOk x.1.2.2.2.2 y) ∧ fresh b5 (x.1.2.2.1 ++ (x.1.2.2.2.2 ++ Z))) (fun x => a.slots.length - x.1.1)
      ⟨(0, .slice none 0 0, [], [], []), trivial, rfl⟩ ?_ ?_ (by kernel_rfl) ?_
     · exact ⟨Nat.zero_le _, rfl, .nil _ _, trivial, trivial, (fun y hy => by cases hy), hb5'⟩
     · simp only [push_cast, seval, reduceCtorEq]
       rfl
     · rintro ⟨⟨k, vk, Nk, kk, Wk⟩, hWk, hWkm⟩ ⟨hk, hkk, hok2, hfk, hfWk, hkok, g5⟩
       dsimp only at hk hkk hok2 hfk hfWk hkok hWk hWkm g5 ⊢
       obtain ⟨pk, ck, rfl⟩ := hok2.slice
       have hmWk : marksOf (Wk ++ Z) = [] := by rw [marks_append, hWkm, mZ]; rfl
       have hmB : marksOf (Nk ++ (Wk ++ Z)) = [] := by rw [marks_append, hok2.wr.2, hmWk]; rfl
       have hkkl : kk.length = k := by
        have := congrArg List.length hkk
        rw [List.length_map, List.length_map, List.length_take, Nat.min_eq_left hk] at this
        exact this
       have fZk := find_behindN hfk bb _ (find_behindN hfWk bb _ fZ)
       rcases Nat.lt_or_ge k a.slots.length with hlt2 | hge2
       · obtain ⟨s, hs⟩ : ∃ s, a.slots[k]? = some s := ⟨a.slots[k], List.getElem?_eq_getElem hlt2⟩
         rcases hsla with h0 | ⟨bs', fs, ds, kds, css, rfl, hfs, hats⟩
         · rw [h0] at hs; simp at hs
         obtain ⟨s1, s2⟩ := hats k s hs
         have fSk := find_behindN hfk bs' _ (find_behindN hfWk bs' _ (fM hfs))
         have k1 : (k : Int) < (a.slots.length : Int) := by omega
         have ds5 := (fresh_findS g5 fSk).2
         have sall : s.cells.all oneC = true := rfl
         have s8 : List.take 8 s.cells = s.cells := List.take_of_length_le (Nat.le_of_eq rfl)
         simp only [push_cast, seval, reduceCtorEq, i1, hlt, k1, hlt2, hmB, db, ds5, fZk, fSk, e26, q26a, q26, s1, s2, s8, Sl.len, sall]
         intro b7 hb7
         refine drawO gM1_ok Tryz.mix [(0, 0), (1, 0), (2, 0), (3, 0), (5, 0), (6, 0), (4, 0), (7, 0), (8, 2), (9, 0), (10, 2), (11, 1), (12, 0), (13, 1)] (by decide +kernel) ?_
         have t1 : List.take 4 s.cells = s.key.cells := rfl
         have t2 : List.take 4 (List.drop 4 s.cells) = s.val.cells := rfl
         have va : ∀ w : W, Value.agg w.cells.toArray = w.v := fun _ => rfl
         simp only [push_cast, seval, reduceCtorEq, hb7, t1, t2, va, Sl.len]
         intro b44 hb44
         simp only [push_cast, seval, reduceCtorEq, hb7, hb44]
         intro b46 hb46
         simp only [push_cast, seval, reduceCtorEq, hb7, hb44, hb46]
         have f7 : fresh b7 (Nk ++ (Wk ++ Z)) := hb7.2.2
         have f44 : fresh b44 (Nk ++ (Wk ++ Z)) := hb44.2.2.2.2
         have f46 : fresh b46 (Nk ++ (Wk ++ Z)) := hb46.2.2.2.2.2.2
         obtain ⟨R44, hR44⟩ : ∃ e : Ent, e = ⟨b44, 0, .vec 90 3 2, [.bool false, .string (bs (numL s.key)), .slice none 0 0, .bool false, .string (bs (numL s.val)), .slice none 0 0]⟩ := ⟨_, rfl⟩
         have R44b : R44.blk = b44 := by rw [hR44]
         rw [← hR44]
         have hx2 : IvOk (R44 :: Wk) (ivLs (.slice (some ⟨b44, 0, none⟩) 2 2) [ivTx (numL s.key), ivTx (numL s.val)]) := by
          refine ivLs_ok ?_ (show 2 ≤ 1099511627776 by decide) (fun k hk => by
           simp only [List.mem_cons, List.not_mem_nil, or_false] at hk
           rcases hk with rfl | rfl <;> exact ivTx_ok _ _)
          rw [hR44]
          exact LiR.vecI rfl
         have hx2i : (ivLs (.slice (some ⟨b44, 0, none⟩) 2 2) [ivTx (numL s.key), ivTx (numL s.val)]).it = itS s := by
          rw [ivLs_it]
          simp only [List.map_cons, List.map_nil, ivTx_it]
          rfl
         refine push_outA (P := Tryz.prog) (c := Iv.cells) (x := ivLs (.slice (some ⟨b44, 0, none⟩) 2 2) [ivTx (numL s.key), ivTx (numL s.val)]) (by_ := 48) (q := 3) (ag := true) [R44, ⟨b7, 0, .cel 67, s.cells⟩, ⟨b5, 0, .cel 90, [.bool true, .string (bs []), .slice pk kk.length ck]⟩] hok2 ⟨(fresh_app_iff.1 f46).1, by rw [R44b]; exact (fresh_app_iff.1 f44).1, (fresh_app_iff.1 f7).1, (fresh_app_iff.1 g5).1, trivial⟩ (by simp only [push_cast, seval, reduceCtorEq]) (by simp only [push_cast, seval, reduceCtorEq]) (Iv.len _) rfl (by unfold two47; omega) fun v' N' ho' hf' => ?_
         have hkl1 : (kk ++ [ivLs (.slice (some ⟨b44, 0, none⟩) 2 2) [ivTx (numL s.key), ivTx (numL s.val)]]).length = kk.length + 1 := by rw [List.length_append]; rfl
         rw [hkl1] at ho'
         obtain ⟨bo, cn, rfl, hcn, -, rfl⟩ := ho'.pos (Nat.succ_pos _)
         obtain ⟨⟨o1, o2, o3, o4, o5, o6, o7, o8, o9⟩, -⟩ := id hf'
         dsimp only at o1 o2 o5 o6 o7 o8
         rw [R44b] at o3 o4
         have d54 : ¬ b5 = b44 := hb44.2.2.2.1
         have d57 : ¬ b5 = b7 := hb7.2.1
         have d56 : ¬ b5 = b46 := hb46.2.2.2.2.2.1
         have m44 : ∀ X : Hp, marksOf (R44 :: X) = marksOf X := fun X => by rw [hR44]; rfl
         simp only [push_cast, seval, reduceCtorEq, R44b, m44, o1, o2, o3, o4, o5, o6, o7, o8, d54, d57, d56, wrap_i64' (show -9223372036854775808 ≤ (k : Int) + 1 ∧ (k : Int) + 1 ≤ 9223372036854775807 by omega)]
         have fWk : fresh b44 Wk := (fresh_app_iff.1 (fresh_app_iff.1 f44).2).1
         have fWZ : fresh b44 Z := (fresh_app_iff.1 (fresh_app_iff.1 f44).2).2
         have eR : Ext Wk (R44 :: Wk) := Ext.cons hWkm (m44 []) (by rw [R44b]; exact fWk)
         refine ⟨⟨(k + 1, .slice (some ⟨bo, 0, none⟩) (kk.length + 1) cn, [⟨bo, 0, .vec 90 3 cn, List.flatMap Iv.cells (kk ++ [ivLs (.slice (some ⟨b44, 0, none⟩) 2 2) [ivTx (numL s.key), ivTx (numL s.val)]])⟩], kk ++ [ivLs (.slice (some ⟨b44, 0, none⟩) 2 2) [ivTx (numL s.key), ivTx (numL s.val)]], R44 :: Wk), ⟨by rw [hR44]; trivial, hWk⟩, by rw [m44]; exact hWkm⟩, ⟨hlt2, ?_, ?_, ?_, ?_, ?_, ?_⟩, by dsimp only; omega, rfl, ⟨rfl, ?_⟩, ?_⟩
         · dsimp only
           rw [List.map_append, hkk, List.take_add_one, hs, List.map_append]
           simp [hx2i]
         · dsimp only
           rw [hkl1]
           exact ho'
         · exact ⟨⟨by rw [R44b]; exact o3, by rw [R44b]; exact o4, o9⟩, trivial⟩
         · exact ⟨by rw [R44b]; exact fWZ, hfWk⟩
         · dsimp only
           intro y hy
           rcases List.mem_append.1 hy with hy | hy
           · exact (hkok y hy).ext eR
           · rw [List.mem_singleton.1 hy]
             exact hx2
         · exact ⟨o8, o7, by rw [R44b]; exact d54, by rw [R44b]; exact fun h => d54 h.symm, (fresh_app_iff.1 g5).2⟩
         · have d46 : ¬ b44 = b46 := hb46.2.1
           have s46 : fresh b46 (Wk ++ Z) := (fresh_app_iff.1 f46).2
           have s7 : fresh b7 (Wk ++ Z) := (fresh_app_iff.1 f7).2
           dsimp only
           simp only [List.cons_append, List.nil_append]
           simp only [push_cast, seval, reduceCtorEq, R44b, d46, o1, o2, o3, o4]
           rw [subH_skip s46, subH_skip s7]
           exact subH_self _
         · dsimp only
           simp only [List.cons_append, List.nil_append, m44, marksOf]
           rw [R44b]
       · obtain rfl : k = a.slots.length := by omega
         rw [List.take_length] at hkk
         simp only [push_cast, seval, reduceCtorEq, i1, hlt, hmB, db, fZk, e26, q26a, q26, Int.lt_irrefl, Nat.lt_irrefl]
         obtain ⟨E5, hE5⟩ : ∃ e : Ent, e = ⟨b5, 0, .cel 90, [.bool true, .string (bs []), .slice pk kk.length ck]⟩ := ⟨_, rfl⟩
         have E5b : E5.blk = b5 := by rw [hE5]
         have fU : findE (E5 :: (Nk ++ (Wk ++ Z))) bb = some ⟨bb, f, kd, cs⟩ := by rw [findE, if_neg (by rw [E5b]; exact db)]; exact fZk
         have mU : marksOf (E5 :: (Nk ++ (Wk ++ Z))) = [] := by rw [hE5]; exact hmB
         rw [← hE5]
         obtain ⟨U, hU⟩ : ∃ U, U = E5 :: (Nk ++ (Wk ++ Z)) := ⟨_, rfl⟩
         rw [← hU] at fU mU ⊢
         have hal : a.at_.l.length = 20 := a.at_.2
         have hat0 : ∀ {j : Nat}, j < 20 → d + i * 27 + j + 1 ≤ cs.length ∧ List.take 1 (List.drop (d + i * 27 + j) cs) = [.int .u8 ((a.at_.l.getD j 0).toNat : Nat)] := fun {j} hj => by
          obtain ⟨h1, h2⟩ := aq j 1 (by omega)
          refine ⟨h1, ?_⟩
          rw [h2, c27]
          unfold Ac.cells
          rw [List.drop_append_of_le_length (by rw [a.at_.len]; omega), List.take_append_of_le_length (by rw [List.length_drop, a.at_.len]; omega)]
          exact byV_at (by omega)
         refine loopO gM1_ok (pl := plItm) Tryz.mix (X := Nat × Value × Hp)
          (fun s => ([(0, .slice (some ⟨bb, f + d, none⟩) L.length c), (2, .pointer (some ⟨b2, 0, none⟩)), (3, .pointer (some ⟨b3, 0, none⟩)), (4, .int .i64 i), (5, .pointer (some ⟨b5, 0, none⟩)), (8, s.2.1), (9, .int .i64 s.1)], s.2.2 ++ U))
          (fun s => s.1 ≤ 20 ∧ OutC 5 1 (byteV (a.at_.l.take s.1)) s.1 s.2.1 s.2.2 ∧ freshN s.2.2 U) (fun s => 20 - s.1) (0, .slice none 0 0, []) ?_ ?_ (by kernel_rfl) ?_
         · exact ⟨Nat.zero_le _, .nil _ _, trivial⟩
         · simp only [push_cast, seval, reduceCtorEq]
           try exact subH_self _
         · rintro ⟨j, vb, Nb⟩ ⟨hj, hob, hfb⟩
           dsimp only at hj hob hfb ⊢
           have fUb : findE (Nb ++ U) bb = some ⟨bb, f, kd, cs⟩ := by rw [findE_freshN hfb fU]; exact fU
           have mUb : marksOf (Nb ++ U) = [] := by rw [marks_append, hob.wr.2, mU]; rfl
           by_cases hc20 : j < 20
           · have j1 : (j : Int) < 20 := by omega
             obtain ⟨h1, h2⟩ := hat0 hc20
             have ej : f + d + i * 27 + j - f = d + i * 27 + j := by omega
             have hts : a.at_.l.take (j + 1) = a.at_.l.take j ++ [a.at_.l.getD j 0] := by
              rw [List.take_add_one, List.getD_eq_getElem?_getD, List.getElem?_eq_getElem (by omega)]; rfl
             obtain ⟨x, hx0⟩ : ∃ x, x = a.at_.l.getD j 0 := ⟨_, rfl⟩
             rw [← hx0] at h2 hts
             simp only [push_cast, seval, reduceCtorEq, i1, hlt, j1, hc20, fUb, mUb, ej, h1, h2]
             intro b61 hb61
             refine append_out1 (e := 5) (sz := 1) (by_ := 1) (n := j) (m := 1) (ys := [.int .u8 (x.toNat : Nat)]) hob hb61 (by simp only [push_cast, seval, reduceCtorEq]) (by simp only [push_cast, seval, reduceCtorEq]) rfl rfl (by unfold two47; omega) fun v' N' ho' hf' => ?_
             simp only [push_cast, seval, reduceCtorEq, wrap_i64' (show -9223372036854775808 ≤ (j : Int) + 1 ∧ (j : Int) + 1 ≤ 9223372036854775807 by omega)]
             refine ⟨(j + 1, v', N'), ⟨hc20, ?_, freshN_cons hf'⟩, by dsimp only; omega, ⟨rfl, rfl⟩, subH_pre (subH_cons (fresh_app hb61)) _, ?_⟩
             · dsimp only
               rw [hts]
               have e3 : byteV (a.at_.l.take j ++ [x]) = byteV (a.at_.l.take j) ++ [.int .u8 (x.toNat : Nat)] := by
                unfold byteV
                rw [List.map_append]; rfl
               rw [e3]
               exact ho'
             · simp only [marks_append, marksOf, hob.wr.2, ho'.wr.2]
           · obtain rfl : j = 20 := by omega
             rw [List.take_of_length_le (Nat.le_of_eq hal)] at hob
             obtain ⟨b8, c8, rfl, hc8, -, rfl⟩ := hob.pos (by decide)
             have fkZ := (freshN_mono hfk).2
             have fkW := (freshN_mono hfk).1
             have toY : ∀ {N : Hp}, freshN N Z → freshN N No ∧ freshN N W' ∧ freshN N M0 ∧ freshN N [E3] ∧ freshN N [E2] := fun {N} h => by
              rw [hZ, hY] at h
              have h1 := freshN_mono (A := [E3]) (B := E2 :: (No ++ (W' ++ M0))) h
              have h2 := freshN_mono (A := [E2]) (B := No ++ (W' ++ M0)) h1.2
              have h3 := freshN_mono h2.2
              have h4 := freshN_mono h3.2
              exact ⟨h3.1, h4.1, h4.2, h1.1, h2.1⟩
             obtain ⟨k1, k2, k3, k4, k5⟩ := toY fkZ
             obtain ⟨w1, w2, w3, w4, w5⟩ := toY hfWk
             have E3b : E3.blk = b3 := by rw [hE3]
             have E2b : E2.blk = b2 := by rw [hE2]
             have fNX : freshN No (Nk ++ (Wk ++ (W' ++ M0))) := freshN_comb (freshN_sym k1) (freshN_comb (freshN_sym w1) hf)
             have fkX : freshN Nk (Wk ++ (W' ++ M0)) := freshN_comb fkW (freshN_comb k2 k3)
             have fwX : freshN Wk (W' ++ M0) := freshN_comb w2 w3
             have fX : findE (No ++ (Nk ++ (Wk ++ (W' ++ M0)))) bb = some ⟨bb, f, kd, cs⟩ := find_behindN fNX bb _ (find_behindN fkX bb _ (find_behindN fwX bb _ (find_behindN hfW bb _ he)))
             have mX : marksOf (No ++ (Nk ++ (Wk ++ (W' ++ M0)))) = [] := by rw [marks_append, marks_append, marks_append, ho.wr.2, hok2.wr.2, hWkm, hmW]; rfl
             obtain ⟨hb8, -⟩ := id hfb
             dsimp only at hb8
             rw [hU, hZ, hY] at hb8
             have g8 : fresh b8 (No ++ (Nk ++ (Wk ++ (W' ++ M0)))) := by
              have h1 := (fresh_app_iff.1 hb8.2.2)
              have h2 := (fresh_app_iff.1 h1.2)
              have h3 := (fresh_app_iff.1 h2.2.2.2.2.2)
              exact fresh_app_iff.2 ⟨h3.1, fresh_app_iff.2 ⟨h1.1, fresh_app_iff.2 ⟨h2.1, h3.2⟩⟩⟩
             have d85 : ¬ b8 = b5 := by have := hb8.1; rwa [E5b] at this
             have d83 : ¬ b8 = b3 := by
              have h1 := (fresh_app_iff.1 (fresh_app_iff.1 hb8.2.2).2).2.1
              rwa [E3b] at h1
             have d82 : ¬ b8 = b2 := by
              have h1 := (fresh_app_iff.1 (fresh_app_iff.1 hb8.2.2).2).2.2.2.1
              rwa [E2b] at h1
             have g5X : fresh b5 (No ++ (Nk ++ (Wk ++ (W' ++ M0)))) := by
              rw [hZ, hY] at g5
              have h1 := (fresh_app_iff.1 g5)
              have h2 := (fresh_app_iff.1 h1.2)
              have h3 := (fresh_app_iff.1 h2.2.2.2.2.2)
              exact fresh_app_iff.2 ⟨h3.1, fresh_app_iff.2 ⟨h1.1, fresh_app_iff.2 ⟨h2.1, h3.2⟩⟩⟩
             have fr1 : ∀ {N : Hp} {e : Ent}, freshN N [e] → fresh e.blk N := fun h => (freshN_sym h).1
             have g3X : fresh b3 (No ++ (Nk ++ (Wk ++ (W' ++ M0)))) := by
              rw [hY] at g3
              have h3 := (fresh_app_iff.1 g3)
              exact fresh_app_iff.2 ⟨h3.1, fresh_app_iff.2 ⟨by have := fr1 k4; rwa [E3b] at this, fresh_app_iff.2 ⟨by have := fr1 w4; rwa [E3b] at this, h3.2⟩⟩⟩
             have g2X : fresh b2 (No ++ (Nk ++ (Wk ++ (W' ++ M0)))) := by
              rw [hY] at g2
              have h3 := (fresh_app_iff.1 g2)
              exact fresh_app_iff.2 ⟨h3.1, fresh_app_iff.2 ⟨by have := fr1 k5; rwa [E2b] at this, fresh_app_iff.2 ⟨by have := fr1 w5; rwa [E2b] at this, h3.2⟩⟩⟩
             have d53 : ¬ b5 = b3 := by
              have h1 := (fresh_app_iff.1 (fresh_app_iff.1 g5).2).2
              rw [hZ] at h1
              have h2 := h1.1
              rwa [E3b] at h2
             have d52 : ¬ b5 = b2 := by
              have h1 := (fresh_app_iff.1 (fresh_app_iff.1 g5).2).2
              rw [hZ] at h1
              have h2 := h1.2.2.1
              rwa [E2b] at h2
             have d32 : ¬ b3 = b2 := hb3.1
             have q8 := (fresh_findS g8 fX).2
             have q5 := (fresh_findS g5X fX).2
             have q3 := (fresh_findS g3X fX).2
             have q2 := (fresh_findS g2X fX).2
             obtain ⟨q24a, q24⟩ := aq 24 1 (by decide)
             obtain ⟨q25a, q25⟩ := aq 25 1 (by decide)
             obtain ⟨q20a, q20⟩ := aq 20 4 (by decide)
             rw [c27, ag3] at q24
             rw [c27, ag4] at q25
             rw [c27, ag2] at q20
             have e24 : f + d + i * 27 + 24 - f = d + i * 27 + 24 := by omega
             have e25 : f + d + i * 27 + 25 - f = d + i * 27 + 25 := by omega
             have e20 : f + d + i * 27 + 20 - f = d + i * 27 + 20 := by omega
             simp only [push_cast, seval, reduceCtorEq, mU]
             refine WpV.perm (H' := E3 :: E2 :: E5 :: ⟨b8, 0, .vec 5 1 c8, byteV a.at_.l⟩ :: (No ++ (Nk ++ (Wk ++ (W' ++ M0))))) ?_ ?_ ?_
             · rw [hU, hZ, hY]
               classical
               refine List.perm_iff_count.2 fun a => ?_
               simp only [List.count_append, List.count_cons, List.count_nil]
               omega
             · rw [hE3, hE2, hE5]
               simp only [marksOf]
               rw [mX, mU]
             rw [hE3, hE2, hE5]
             refine drawO gM1_ok Tryz.mix [(0, 0), (1, 0), (2, 0), (5, 0), (6, 0), (7, 0), (8, 0), (9, 0), (12, 0), (13, 0), (14, 0), (15, 0), (16, 0), (18, 0), (19, 0), (20, 0), (21, 0), (22, 0), (24, 0), (3, 2), (4, 0), (10, 0), (11, 0), (17, 0), (23, 0), (25, 2), (26, 0), (27, 2), (28, 1), (29, 0), (30, 1)] (by decide +kernel) ?_
             have hbt : bytesOf a.at_.cells = some a.at_.l := bytesOf_byteV _
             have va : ∀ w : W, Value.agg w.cells.toArray = w.v := fun _ => rfl
             have l20 : (byteV a.at_.l).length = 20 := by rw [byV_len, hal]
             have t20 : List.take 20 (byteV a.at_.l) = byteV a.at_.l := List.take_of_length_le (Nat.le_of_eq l20)
             simp only [push_cast, seval, reduceCtorEq, i1, hlt, d85, d83, d82, d53, d52, d32, q8, q5, q3, q2, fX, e24, e25, e20, q24a, q24, q25a, q25, q20a, q20, n1, n2, va, l20, t20, bytesOf_byteV, bs_mk]
             intro b88 hb88
             have f88 : fresh b88 (No ++ (Nk ++ (Wk ++ (W' ++ M0)))) := hb88.2.2.2.2.2.2.2.2
             have hcode : bs a.code.data.toList = a.code := by obtain ⟨m, hm⟩ := bs_of a.code; rw [hm, bs_data]
             obtain ⟨KS, hKS⟩ : ∃ KS : List Iv, KS = [ivTx a.at_.l, ivTx (numL (W.ofInt a.nonce)), ivTx (numL a.bal), ivTx a.code.data.toList, ivLs (.slice pk kk.length ck) kk] := ⟨_, rfl⟩
             have hcl : [.bool false, .string (bs a.at_.l), .slice none 0 0, .bool false, .string (bs (numL (W.ofInt a.nonce))), .slice none 0 0, .bool false, .string (bs (numL a.bal)), .slice none 0 0, .bool false, .string a.code, .slice none 0 0, .bool true, .string (bs []), .slice pk kk.length ck] = KS.flatMap Iv.cells := by
              rw [hKS]
              conv => lhs; rw [← hcode]
              rfl
             have hKl : KS.length = 5 := by rw [hKS]; rfl
             simp only [push_cast, seval, reduceCtorEq, hb88, d85, d83, d82, d53, d52, d32]
             intro b90 hb90
             have f90 : fresh b90 (No ++ (Nk ++ (Wk ++ (W' ++ M0)))) := hb90.2.2.2.2.2.2.2.2.2.2
             simp only [push_cast, seval, reduceCtorEq, hb88, hb90, d85, d83, d82, d53, d52, d32]
             rw [hcl]
             obtain ⟨R88, hR88⟩ : ∃ E : Ent, E = ⟨b88, 0, .vec 90 3 5, KS.flatMap Iv.cells⟩ := ⟨_, rfl⟩
             have R88b : R88.blk = b88 := by rw [hR88]
             have m88 : ∀ X : Hp, marksOf (R88 :: X) = marksOf X := fun X => by rw [hR88]; rfl
             rw [← hR88]
             obtain ⟨x, hxe⟩ : ∃ x, x = ivLs (.slice (some ⟨b88, 0, none⟩) 5 5) KS := ⟨_, rfl⟩
             have hxc : x.cells = [.bool true, .string (bs []), .slice (some ⟨b88, 0, none⟩) 5 5] := by rw [hxe]; rfl
             have hx1 : x.cells.all oneC = true := by rw [hxc]; rfl
             rw [← hxc]
             refine push_outA (P := Tryz.prog) (c := Iv.cells) (x := x) (by_ := 48) (q := 3) (ag := true) [R88, ⟨b3, 0, .cel 90, [.bool true, .string (bs []), .slice po ks.length co]⟩, ⟨b2, 0, .cel 90, [.bool false, .string (bs []), .slice none 0 0]⟩, ⟨b5, 0, .cel 90, [.bool true, .string (bs []), .slice pk kk.length ck]⟩, ⟨b8, 0, .vec 5 1 c8, byteV a.at_.l⟩] ho ⟨(fresh_app_iff.1 f90).1, by rw [R88b]; exact (fresh_app_iff.1 f88).1, (fresh_app_iff.1 g3X).1, (fresh_app_iff.1 g2X).1, (fresh_app_iff.1 g5X).1, (fresh_app_iff.1 g8).1, trivial⟩ (by simp only [push_cast, seval, reduceCtorEq]) (by simp only [push_cast, seval, reduceCtorEq]) (Iv.len _) hx1 (by unfold two47; omega) fun v' N' ho' hf' => ?_
             have hkl1 : (ks ++ [x]).length = ks.length + 1 := by rw [List.length_append]; rfl
             rw [hkl1] at ho'
             obtain ⟨bo, cn, rfl, hcn, -, rfl⟩ := ho'.pos (Nat.succ_pos _)
             obtain ⟨⟨o1, o2, o3, o4, o5, o6, o7, o8, o9, oa, ob, oc, od⟩, -⟩ := id hf'
             dsimp only at o1 o2 o5 o6 o7 o8 o9 oa ob oc
             rw [R88b] at o3 o4
             have d388 : ¬ b3 = b88 := hb88.2.1
             have d288 : ¬ b2 = b88 := hb88.2.2.2.1
             have d588 : ¬ b5 = b88 := hb88.2.2.2.2.2.1
             have d888 : ¬ b8 = b88 := hb88.2.2.2.2.2.2.2.1
             have d9088 : ¬ b88 = b90 := hb90.2.1
             have d390 : ¬ b3 = b90 := hb90.2.2.2.1
             simp only [push_cast, seval, reduceCtorEq, R88b, m88, o1, o2, o3, o4, o5, o6, o7, o8, o9, oa, ob, oc, d388, d288, d588, d888, d9088, d390, d85, d83, d82, d53, d52, d32, wrap_i64' (show -9223372036854775808 ≤ (i : Int) + 1 ∧ (i : Int) + 1 ≤ 9223372036854775807 by omega)]
             have fW2 : freshN (Nk ++ (Wk ++ W')) M0 := freshN_appL.2 ⟨k3, freshN_appL.2 ⟨w3, hfW⟩⟩
             have f88r := (fresh_app_iff.1 f88).2
             have f88k := fresh_app_iff.1 f88r
             have f88w := fresh_app_iff.1 f88k.2
             have f88v := fresh_app_iff.1 f88w.2
             have mkW : marksOf (Wk ++ W') = [] := by rw [marks_append, hWkm, hWm]; rfl
             have mnW : marksOf (Nk ++ (Wk ++ W')) = [] := by rw [marks_append, hok2.wr.2, mkW]; rfl
             have eW1 : Ext W' (Wk ++ W') := Ext.rightN w2 hWkm hWm
             have eW2 : Ext (Wk ++ W') (Nk ++ (Wk ++ W')) := Ext.rightN (freshN_comb fkW k2) hok2.wr.2 mkW
             have eW3 : Ext (Nk ++ (Wk ++ W')) (R88 :: (Nk ++ (Wk ++ W'))) := Ext.cons mnW (m88 []) (by rw [R88b]; exact fresh_app_iff.2 ⟨f88k.1, fresh_app_iff.2 ⟨f88w.1, f88v.1⟩⟩)
             have eK : Ext Wk (Wk ++ W') := Ext.leftN hWkm hWm
             have eN : Ext Nk (Nk ++ (Wk ++ W')) := Ext.leftN hok2.wr.2 mkW
             have hxo : IvOk (R88 :: (Nk ++ (Wk ++ W'))) x := by
              rw [hxe]
              refine ivLs_ok (by rw [hR88]; exact LiR.vecI hKl.symm) (by rw [hKl]; decide) fun y hy => ?_
              rw [hKS] at hy
              simp only [List.mem_cons, List.not_mem_nil, or_false] at hy
              rcases hy with rfl | rfl | rfl | rfl | rfl
              · exact ivTx_ok _ _
              · exact ivTx_ok _ _
              · exact ivTx_ok _ _
              · exact ivTx_ok _ _
              · exact ivLs_ok (((hok2.liR rfl rfl []).congr (by rw [List.append_nil])).ext (eN.trans eW3)) (by omega) fun y hy => (hkok y hy).ext (eK.trans (eW2.trans eW3))
             have hxi : x.it = itA a := by
              rw [hxe, ivLs_it, hKS]
              simp only [List.map_cons, List.map_nil, ivTx_it, ivLs_it, hkk]
              rfl
             refine ⟨⟨(i + 1, .slice (some ⟨bo, 0, none⟩) (ks.length + 1) cn, [⟨bo, 0, .vec 90 3 cn, List.flatMap Iv.cells (ks ++ [x])⟩], ks ++ [x], R88 :: (Nk ++ (Wk ++ W'))), ⟨by rw [hR88]; trivial, allWr_app hok2.wr.1 (allWr_app hWk hW)⟩, by rw [m88]; exact mnW⟩, ⟨hlt, ?_, ?_, ?_, ?_, ?_, ?_, ?_⟩, by dsimp only; omega, ?_⟩
             · dsimp only
               rw [List.map_append, hks, List.take_add_one, List.getElem?_map, hx, List.map_append]
               simp [hxi]
             · dsimp only
               rw [hkl1]
               exact ho'
             · dsimp only
               simp only [List.cons_append, List.nil_append, List.append_assoc]
               exact ⟨⟨by rw [R88b]; exact o3, by rw [R88b]; exact o4, od⟩, trivial⟩
             · exact ⟨by rw [R88b]; exact f88v.2, fW2⟩
             · dsimp only
               intro y hy
               rcases List.mem_append.1 hy with hy | hy
               · exact (hok y hy).ext (eW1.trans (eW2.trans eW3))
               · rw [List.mem_singleton.1 hy]
                 exact hxo
             · dsimp only
               simp only [List.cons_append, List.nil_append, List.append_assoc]
               exact ⟨o6, o5, by rw [R88b]; exact d388, by rw [R88b]; exact fun h => d388 h.symm, (fresh_app_iff.1 g3X).2⟩
             · dsimp only
               simp only [List.cons_append, List.nil_append, List.append_assoc]
               exact ⟨o8, o7, by rw [R88b]; exact d288, by rw [R88b]; exact fun h => d288 h.symm, (fresh_app_iff.1 g2X).2⟩
             · have d290 : ¬ b2 = b90 := hb90.2.2.2.2.2.1
               have r90 := (fresh_app_iff.1 f90).2
               have r5 := (fresh_app_iff.1 g5X).2
               have r8 := (fresh_app_iff.1 g8).2
               dsimp only
               simp only [List.cons_append, List.nil_append, List.append_assoc]
               simp only [push_cast, seval, reduceCtorEq, R88b, m88, o1, o2, o3, o4, o5, o6, o7, o8, o9, oa, ob, oc, d390, d290, d388, d288, d588, d888, d9088, d85, d83, d82, d53, d52, d32]
               rw [subH_skip r90, subH_skip r5, subH_skip r8]
               exact subH_self _
   · obtain rfl : i = L.length := by omega
     have d32 : ¬ b2 = b3 := hb3.2.1
     simp only [push_cast, seval, reduceCtorEq, Int.lt_irrefl, Nat.lt_irrefl, d32]
     have hfNW : freshN No W' := freshN_iff.2 fun e he x hx => freshN_iff.1 hf e he x (List.mem_append_left _ hx)
     refine ⟨No ++ W', ?_, allWr_app ho.wr.1 hW, by rw [marks_append, ho.wr.2, hWm]; rfl, ivLs (.slice po ks.length co) ks, rfl, ?_, ?_⟩
     · rw [dropM_eq hmA, ← List.append_assoc]
       exact ((List.sublist_append_left _ _).cons _).cons _
     · rw [ivLs_it, hks, show L.length = (L.map (·.1)).length from hlen.symm, List.take_length]; rfl
     · exact ivLs_ok (ho.liR rfl rfl _) (by omega) fun y hy => (hok y hy).ext (Ext.rightN hfNW ho.wr.2 hWm)
end Go.Proofs.YtpcjmmdgopihcaaGreatDoor
namespace Go.Ev
abbrev ColX := { s : Value × Hp × List Iv × Hp // allWr s.2.1 ∧ marksOf s.2.1 = [] ∧ allWr s.2.2.2 ∧ marksOf s.2.2.2 = [] }
end Go.Ev
namespace Go.Proofs.YtpcjmmdgopihcaaGreatDoor
open Go Go.Ev Go.Proofs
attribute [-push_cast] evAppend_nil evAppend_some slAddr
def colH (b : Nat) (s : ColX) : Hp := s.1.2.1 ++ (s.1.2.2.2 ++ [⟨b, 0, .cel 88, [s.1.1]⟩])
theorem colH_wr (b : Nat) (s : ColX) : ∀ e ∈ colH b s, e.wr := fun e he => by
 rcases List.mem_append.1 he with h | h
 · exact allWr_mem s.2.1 e h
 · rcases List.mem_append.1 h with h | h
   · exact allWr_mem s.2.2.2.1 e h
   · rw [List.mem_singleton.1 h]; trivial
theorem colH_marks (b : Nat) (s : ColX) : marksOf (colH b s) = [] := by
 unfold colH
 rw [marks_append, marks_append, s.2.2.1, s.2.2.2.2]
 rfl
def plApS : Plans := fun i => if i = 3 then [] else Tryz.pl73 i
attribute [push_cast] plApS
theorem appSeqI_ok {gf : FuncId} {caps : List Value} {Hc : Hp} {ts : List It} (hit : IterN Tryz.prog gf caps Hc ts.length (VI ts)) (hn : ts.length ≤ 1099511627776) (hmc : marksOf Hc = []) : CallsV Tryz.prog 73 [.slice none 0 0, .func (.func gf) #[] caps.toArray] Hc (fun v N => allWr N ∧ marksOf N = [] ∧ ItsQ ts v N) := by
 refine callsO gN4_ok Tryz.mix plApS Tryz.func73 rfl Tryz.ntmps73 Tryz.results73 rfl (by first | rfl | assumption) (Nat.le_of_ble_eq_true rfl) (by kernel_rfl) ?_
 simp only [push_cast, seval, reduceCtorEq]
 intro b2 hb2
 refine rangeNO gN4_ok (pl := plApS) Tryz.mix (Hc := Hc) (Hm := []) hit rfl
  (X := ColX) (colH b2)
  (fun k s => s.1.2.2.1.map Iv.it = ts.take k ∧ s.1.2.2.1.length = k ∧ OutC 90 3 (s.1.2.2.1.flatMap Iv.cells) k s.1.1 s.1.2.1 ∧ freshN s.1.2.1 (s.1.2.2.2 ++ [⟨b2, 0, .cel 88, [s.1.1]⟩]) ∧ freshN s.1.2.2.2 [⟨b2, 0, .cel 88, [s.1.1]⟩] ∧ ∀ y ∈ s.1.2.2.1, IvOk s.1.2.2.2 y) (fun _ _ => False) ⟨(.slice none 0 0, [], [], []), trivial, rfl, trivial, rfl⟩
  ?_ ?_ ?_ hmc (by simp) (colH_marks b2) (fun x y e he => .inl (colH_wr b2 y e he)) ?_ (by kernel_rfl) (by kernel_rfl) (fun _ _ h => h.elim) ?_ ?_ (fun _ _ _ _ h => h.elim)
 · exact ⟨by simp, rfl, .nil _ _, trivial, trivial, fun y hy => by cases hy⟩
 · exact subH_rotI hb2
 · simp [marksOf, hmc]
 · rintro k args N ⟨t, -, x, rfl, -⟩
   rfl
 · rintro lo k ⟨⟨vo, No, ks, W'⟩, hNw, hNm, hWw, hWm⟩ args N hkn ⟨t, htk, x, rfl, hxt, hxo⟩ hN1 hN2 hfr ⟨hks, hkl, ho, hf, hf2, hok⟩
   dsimp only at hNw hNm hWw hWm hks hkl ho hf hf2 hok hfr
   subst hkl
   have xall : x.cells.all oneC = true := Iv.all1 hxo.one
   have xv : x.v.cells.toList = x.cells := rfl
   have x3 : List.take 3 x.cells = x.cells := List.take_of_length_le (Nat.le_of_eq rfl)
   obtain ⟨po, co, rfl⟩ := ho.slice
   have hmA : marksOf (N ++ (No ++ (W' ++ [⟨b2, 0, .cel 88, [.slice po ks.length co]⟩]))) = [] := by rw [marks_append, marks_append, marks_append, hN2, hNm, hWm]; rfl
   have hfr' : freshN N (No ++ (W' ++ [⟨b2, 0, .cel 88, [.slice po ks.length co]⟩])) := hfr
   have hF2 : findE (N ++ (No ++ (W' ++ [⟨b2, 0, .cel 88, [.slice po ks.length co]⟩]))) b2 = some ⟨b2, 0, .cel 88, [.slice po ks.length co]⟩ := find_behindN hfr' b2 _ (find_behindN hf b2 _ (find_behindN hf2 b2 _ (by simp [findE])))
   generalize hRK : (roundK _ _ _ ks.length : Exit → Tm → Hp → Prop) = RK
   show oC _ _ _ _ _ _ (thenK (bKont _ _ _ _ _ _ _ (N ++ (No ++ (W' ++ [⟨b2, 0, .cel 88, [.slice po ks.length co]⟩])))) _) (parT 15 _ _ [x.v]) (N ++ (No ++ (W' ++ [⟨b2, 0, .cel 88, [.slice po ks.length co]⟩])))
   simp only [push_cast, seval, reduceCtorEq, hmA, xall, Iv.len, xv]
   intro b5 hb5
   have d52 := (fresh_findS hb5 hF2).2
   refine drawO gN4_ok Tryz.mix (Tryz.pl73 3) (by kernel_rfl) ?_
   simp only [push_cast, seval, reduceCtorEq, hF2, d52, x3, Iv.len]
   intro b11 hb11
   have f11 := hb11.2.2
   refine ⟨?_, ?_⟩
   · simp only [push_cast, seval, reduceCtorEq, hb11]
   have fN : ∀ {A : Hp} {B : Hp}, freshN N (A ++ B) → freshN N A ∧ freshN N B := fun h => ⟨freshN_iff.2 fun e he x hx => freshN_iff.1 h e he x (List.mem_append_left _ hx), freshN_iff.2 fun e he x hx => freshN_iff.1 h e he x (List.mem_append_right _ hx)⟩
   refine push_outA (c := Iv.cells) (x := ivTx []) (by_ := 48) (q := 3) (ag := true) (⟨b5, 0, .cel 90, x.cells⟩ :: N) ho ⟨(fresh_app_iff.1 (fresh_app_iff.1 f11).2).1, (fresh_app_iff.1 (fresh_app_iff.1 hb5).2).1, (fN hfr').1⟩ (by simp only [push_cast, seval, reduceCtorEq]) (by simp only [push_cast, seval, reduceCtorEq]) (Iv.len _) rfl (by unfold two47; omega) fun v' N' ho' hf' => ?_
   rcases ho' with ⟨h0, -⟩ | ⟨g, c', hn0, rfl, hc', hcl, rfl⟩
   · rw [List.length_append] at h0; exact absurd h0 (by simp)
   obtain ⟨⟨g11, g11', g5, g5', gX⟩, -⟩ := hf'
   have hlen1 : (ks ++ [ivTx []]).length = ks.length + 1 := by rw [List.length_append]; rfl
   have hfl : (ks.flatMap Iv.cells).length = ks.length * 3 := flatMap_len Iv.len ks
   have hcs : (ks ++ [ivTx []]).flatMap Iv.cells = ks.flatMap Iv.cells ++ (ivTx []).cells := by rw [List.flatMap_append]; simp
   have htk3 : List.take (ks.length * 3) ((ks ++ [ivTx []]).flatMap Iv.cells) = ks.flatMap Iv.cells := by rw [hcs, ← hfl]; exact List.take_left ..
   have hdr3 : List.drop (ks.length * 3 + 3) ((ks ++ [ivTx []]).flatMap Iv.cells) = [] := by rw [hcs]; exact List.drop_of_length_le (by rw [List.length_append, hfl]; exact Nat.le_refl _)
   have d11 : ¬ b2 = b11 := (fresh_findS f11 hF2).2
   have gX' : fresh g (N ++ (W' ++ [(⟨b2, 0, .cel 88, [.slice po ks.length co]⟩ : Ent)])) := gX
   have gN := (fresh_app_iff.1 gX').1
   have gW := (fresh_app_iff.1 (fresh_app_iff.1 gX').2).1
   have f12 : freshN N (W' ++ [(⟨b2, 0, .cel 88, [.slice po ks.length co]⟩ : Ent)]) := (fN hfr').2
   have hF3 : findE (N ++ (W' ++ [(⟨b2, 0, .cel 88, [.slice po ks.length co]⟩ : Ent)])) b2 = some ⟨b2, 0, .cel 88, [.slice po ks.length co]⟩ := find_behindN f12 b2 _ (find_behindN hf2 b2 _ (by simp [findE]))
   have hU : ∀ cs, updE (N ++ (W' ++ [(⟨b2, 0, .cel 88, [.slice po ks.length co]⟩ : Ent)])) b2 cs = N ++ (W' ++ [(⟨b2, 0, .cel 88, cs⟩ : Ent)]) := fun cs => by
    rw [updE_left f12 (find_behindN hf2 b2 (⟨b2, 0, .cel 88, [.slice po ks.length co]⟩ : Ent) (by simp [findE]))]
    exact congrArg (N ++ ·) (updE_freshN hf2 cs)
   have g2 : ¬ b2 = g := (fresh_findS gX' hF3).2
   have i1 : (ks.length : Int) < (ks.length : Int) + 1 := by omega
   have hl3 : ((ks ++ [ivTx []]).flatMap Iv.cells).length = ks.length * 3 + 3 := by rw [hcs, List.length_append, hfl]; rfl
   have i2 : ks.length * 3 + 3 ≤ (List.flatMap Iv.cells (ks ++ [ivTx []])).length := Nat.le_of_eq hl3.symm
   simp only [push_cast, seval, reduceCtorEq, Iv.len, i1, i2, xall, hF3, hU, g2, d11, d52, htk3, hdr3, hlen1]
   rw [← hRK]
   have fNW : freshN N W' := (fN f12).1
   have mNW : marksOf (N ++ W') = [] := by rw [marks_append, hN2, hWm]; rfl
   have eN : Ext N (N ++ W') := Ext.leftN hN2 hWm
   have eW : Ext W' (N ++ W') := Ext.rightN fNW hN2 hWm
   have e5 : Ext (N ++ W') ((⟨b5, 0, .cel 90, x.cells⟩ : Ent) :: (N ++ W')) := Ext.cons mNW rfl (fresh_app_iff.2 ⟨(fresh_app_iff.1 hb5).1, (fresh_app_iff.1 (fresh_app_iff.1 (fresh_app_iff.1 hb5).2).2).1⟩)
   have e11 : Ext ((⟨b5, 0, .cel 90, x.cells⟩ : Ent) :: (N ++ W')) ((⟨b11, 0, .vec 90 3 1, (ivTx []).cells⟩ : Ent) :: ⟨b5, 0, .cel 90, x.cells⟩ :: (N ++ W')) := Ext.cons mNW rfl ⟨hb11.1, hb11.2.1, fresh_app_iff.2 ⟨(fresh_app_iff.1 f11).1, (fresh_app_iff.1 (fresh_app_iff.1 (fresh_app_iff.1 f11).2).2).1⟩⟩
   have hcx : (ks ++ [x]).flatMap Iv.cells = ks.flatMap Iv.cells ++ x.cells := by rw [List.flatMap_append]; simp
   have hlx : (ks ++ [x]).length = ks.length + 1 := by rw [List.length_append]; rfl
   refine ⟨⟨(.slice (some ⟨g, 0, none⟩) (ks.length + 1) c', [⟨g, 0, .vec 90 3 c', ks.flatMap Iv.cells ++ x.cells⟩], ks ++ [x], (⟨b11, 0, .vec 90 3 1, (ivTx []).cells⟩ : Ent) :: ⟨b5, 0, .cel 90, x.cells⟩ :: (N ++ W')), ⟨trivial, trivial⟩, rfl, ⟨trivial, trivial, allWr_app hN1 hWw⟩, by simp only [marksOf, marks_append, hN2, hWm]; rfl⟩, ⟨?_, hlx, ?_, ?_, ?_, ?_⟩, ?_⟩
   · dsimp only
     rw [List.map_append, hks, List.map_cons, List.map_nil, hxt, List.take_add_one, htk]; rfl
   · dsimp only
     rw [hcx]
     exact .inr ⟨g, c', by omega, rfl, by omega, by rw [List.length_append, hfl, x.len]; omega, rfl⟩
   · dsimp only
     exact ⟨⟨g11, g11', g5, g5', fresh_app_iff.2 ⟨fresh_app_iff.2 ⟨gN, gW⟩, (fresh_app_iff.1 (fresh_app_iff.1 gX').2).2⟩⟩, trivial⟩
   · dsimp only
     have hNW : freshN (N ++ W') [(⟨b2, 0, .cel 88, [.slice po ks.length co]⟩ : Ent)] := freshN_iff.2 fun e he => by
      rcases List.mem_append.1 he with h | h
      · exact freshN_iff.1 (fN f12).2 e h
      · exact freshN_iff.1 hf2 e h
     have w2 : ∀ {A : Hp}, freshN A [(⟨b2, 0, .cel 88, [.slice po ks.length co]⟩ : Ent)] → freshN A [(⟨b2, 0, .cel 88, [.slice (some ⟨g, 0, none⟩) (ks.length + 1) c']⟩ : Ent)] := fun h => freshN_iff.2 fun e he x hx => by
      rw [List.mem_singleton.1 hx]
      exact freshN_iff.1 h e he (⟨b2, 0, .cel 88, [.slice po ks.length co]⟩ : Ent) (List.mem_singleton.2 rfl)
     exact ⟨(fresh_app_iff.1 (fresh_app_iff.1 (fresh_app_iff.1 f11).2).2).2, (fresh_app_iff.1 (fresh_app_iff.1 (fresh_app_iff.1 hb5).2).2).2, w2 hNW⟩
   · dsimp only
     intro y hy
     rcases List.mem_append.1 hy with hy | hy
     · exact (hok y hy).ext (eW.trans (e5.trans e11))
     · rw [List.mem_singleton.1 hy]
       exact hxo.ext (eN.trans (e5.trans e11))
   · unfold colH
     dsimp only
     simp only [List.cons_append, List.nil_append, List.append_assoc]
     exact subH_self _
 · rintro D ⟨⟨vo, No, ks, W'⟩, hNw, hNm, hWw, hWm⟩ hfD ⟨hks, hkl, ho, hf, hf2, hok⟩
   dsimp only at hNw hNm hWw hWm hks hkl ho hf hf2 hok hfD
   have fbo : findE (No ++ (W' ++ [(⟨b2, 0, .cel 88, [vo]⟩ : Ent)])) b2 = some ⟨b2, 0, .cel 88, [vo]⟩ := find_behindN hf b2 _ (find_behindN hf2 b2 _ (by simp [findE]))
   unfold colH at hfD ⊢
   dsimp only at hfD ⊢
   have hDb : ¬ b2 = D := (fresh_findS hfD fbo).2
   have hm : marksOf (No ++ (W' ++ [(⟨b2, 0, .cel 88, [vo]⟩ : Ent)])) = [] := by rw [marks_append, marks_append, hNm, hWm]; rfl
   simp only [push_cast, seval, reduceCtorEq, hDb, fbo]
   rw [List.take_length] at hks
   refine ⟨No ++ W', ?_, allWr_app hNw hWw, by rw [marks_append, hNm, hWm]; rfl, ks, hks, ho.liR hkl.symm rfl _, fun y hy => (hok y hy).ext (Ext.rightN (freshN_iff.2 fun e he x hx => freshN_iff.1 hf e he x (List.mem_append_left _ hx)) hNm hWm)⟩
   rw [dropM_eq hm, ← List.append_assoc]
   exact List.sublist_append_left _ _
theorem collectI_ok {gf : FuncId} {caps : List Value} {Hc : Hp} {ts : List It} (hit : IterN Tryz.prog gf caps Hc ts.length (VI ts)) (hn : ts.length ≤ 1099511627776) (hmc : marksOf Hc = []) (hd : derE Hc Hc) : CallsV Tryz.prog 54 [.func (.func gf) #[] caps.toArray] Hc (fun v N => allWr N ∧ marksOf N = [] ∧ ItsQ ts v N) := by
 refine callsO gN4_ok Tryz.mix Tryz.pl54 Tryz.func54 rfl Tryz.ntmps54 Tryz.results54 rfl (by first | rfl | assumption) (Nat.le_of_ble_eq_true rfl) (by kernel_rfl) ?_
 simp only [push_cast, seval, reduceCtorEq]
 refine (appSeqI_ok hit hn hmc).use hd ?_
 rintro v N ⟨h1, h2, h3⟩
 refine ⟨h1, h2, fun hf => ?_⟩
 have hm : marksOf (N ++ Hc) = [] := by rw [marks_append, h2, hmc]; rfl
 simp only [push_cast, seval, reduceCtorEq]
 refine ⟨N, ?_, h1, h2, h3⟩
 rw [dropM_eq hm]
 exact List.sublist_append_left _ _
end Go.Proofs.YtpcjmmdgopihcaaGreatDoor
namespace Go.Ev
noncomputable def encR (x : It) : List UInt8 × Int := if rightI x = true then (if (encL x).length ≤ 1048576 then (encL x, 0) else ([], 2)) else ([], 1)
noncomputable def digR (s : List Ac) : List UInt8 × Int :=
 if rightS s = true then (if (encR (itSt s)).2 = 0 then (keccK (encR (itSt s)).1, 0) else ([], (encR (itSt s)).2)) else ([], 1)
end Go.Ev
namespace Go.Proofs.YtpcjmmdgopihcaaGreatDoor
open Go Go.Ev Go.Proofs
theorem itemsS_ok (p : Option Addr) (n k : Nat) : CallsV Tryz.prog 55 [.slice p n k] [] (fun v N => ∃ b c, v = .func (.func 76) #[] #[.pointer (some ⟨b, 0, none⟩), .pointer (some ⟨c, 0, none⟩)] ∧ N = [⟨c, 0, .cel 110, [.func (.func 74) #[] #[]]⟩, ⟨b, 0, .cel 22, [.slice p n k]⟩] ∧ ¬ b = c) := by
 refine callsO gN4_ok Tryz.mix Tryz.pl55 Tryz.func55 rfl Tryz.ntmps55 Tryz.results55 rfl (by first | rfl | assumption) (Nat.le_of_ble_eq_true rfl) (by kernel_rfl) ?_
 simp only [push_cast, seval, reduceCtorEq]
 intro b c hc
 try simp only [push_cast, seval, reduceCtorEq, hc]
 exact ⟨[_, _], List.Sublist.refl _, b, c, rfl, rfl, hc.2⟩
theorem renc_ok {M : Hp} {x : Iv} (hx : IvOk M x) (hl : (encL x.it).length ≤ 1099511627776) : ∀ M0, roM M0 → cellsAt M0 = cellsAt M → CallsV Tryz.prog 52 [x.v] M0 (Ret0 (.tuple #[.string (bs (encR x.it).1), .int .i64 (encR x.it).2])) := by
 intro M0 hr he
 have hx0 := hx.congr he.symm
 have hm := hr.marks
 have il : x.cells.length = 3 := rfl
 have it3 : List.take 3 x.cells = x.cells := List.take_of_length_le (Nat.le_of_eq rfl)
 have xv : x.v.cells.toList = x.cells := rfl
 have xall : x.cells.all oneC = true := Iv.all1 hx0.one
 refine callsO gN4_ok Tryz.mix Tryz.pl52 Tryz.func52 rfl Tryz.ntmps52 Tryz.results52 rfl (by first | rfl | assumption) (Nat.le_of_ble_eq_true rfl) (by kernel_rfl) ?_
 simp only [push_cast, seval, reduceCtorEq, xv, xall, il]
 intro b1 hb1
 try simp only [push_cast, seval, reduceCtorEq, il, it3]
 refine useP [_] (v := .bool (rightI x.it)) (fun M1 hr1 he1 => rright_ok hr1 (hx0.congr he1.symm)) ⟨hb1, trivial⟩ ?_
 cases hri : rightI x.it with
 | false =>
   simp only [push_cast, seval, reduceCtorEq, il, it3]
   unfold encR
   rw [hri]
   rfl
 | true =>
   simp only [push_cast, seval, reduceCtorEq, il, it3]
   refine useP [_] (fun M1 hr1 he1 => encode_ok x M1 hr1 (hx0.congr he1.symm) hl) ⟨hb1, trivial⟩ ?_
   have hz : (bs (encL x.it)).size = (encL x.it).length := rfl
   rcases Nat.lt_or_ge 1048576 (encL x.it).length with h | h
   · have h' : (1048576 : Int) < ((encL x.it).length : Int) := by omega
     simp only [push_cast, seval, reduceCtorEq, hz, h']
     unfold encR
     rw [hri, if_pos rfl, if_neg (by omega)]
     rfl
   · have h' : ¬ (1048576 : Int) < ((encL x.it).length : Int) := by omega
     simp only [push_cast, seval, reduceCtorEq, hz, h']
     unfold encR
     rw [hri, if_pos rfl, if_pos h]
theorem digest_ok {M : Hp} {s : List Ac} {v : Value} (hk : KonR M) (hv : StR s v M) (hn : s.length ≤ 1099511627776) (hsl : rightS s = true → ∀ y ∈ s, y.slots.length ≤ 1099511627776) (hb : s.length ≤ 1000000000) (hnc : ∀ y ∈ s, -9223372036854775808 ≤ y.nonce ∧ y.nonce ≤ 9223372036854775807) (hl : rightS s = true → (encL (itSt s)).length ≤ 1099511627776) :
  ∀ M0, roM M0 → cellsAt M0 = cellsAt M → CallsV Tryz.prog 27 [v] M0 (Ret0 (.tuple #[.string (bs (digR s).1), .int .i64 (digR s).2])) := by
 intro M0 hr he
 have hm := hr.marks
 have hk0 := hk.congr he.symm
 have hv0 : StR s v M0 := StR.rd _ _ _ _ he.symm hv
 obtain ⟨p, n, k, rfl, hpn⟩ : ∃ p n k, v = .slice p n k ∧ n = s.length := by
  obtain ⟨L, h1, h2, -⟩ := id hv0
  obtain ⟨p, k, h3⟩ := h2.slice
  exact ⟨p, _, k, h3, by rw [← h1, List.length_map]⟩
 refine callsO gN4_ok Tryz.mix Tryz.pl27 Tryz.func27 rfl Tryz.ntmps27 Tryz.results27 rfl (by first | rfl | assumption) (Nat.le_of_ble_eq_true rfl) (by kernel_rfl) ?_
 simp only [push_cast, seval, reduceCtorEq]
 refine useP [] (v := .bool (rightS s)) (fun M1 hr1 he1 => sright_ok (StR.rd _ _ _ _ he1.symm hv0) hr1.marks (by omega)) trivial ?_
 unfold digR
 cases hri : rightS s with
 | false =>
   simp only [push_cast, seval, reduceCtorEq]
   rfl
 | true =>
 have hsl := hsl hri
 have hl := hl hri
 simp only [push_cast, seval, reduceCtorEq]
 refine (itemsS_ok p n k).use trivial ?_
 rintro _ _ ⟨b, c, rfl, rfl, hne⟩
 refine ⟨⟨trivial, trivial, trivial⟩, rfl, fun hfn => ?_⟩
 have hfn0 := hfn
 simp only [push_cast, seval, reduceCtorEq] at hfn
 try simp only [push_cast, seval, reduceCtorEq, hfn]
 generalize hX : (_ :: _ :: M0 : Hp) = X
 have eX : Ext M0 X := by
  rw [← hX]
  exact (Ext.cons (e := ⟨b, 0, .cel 22, [.slice p n k]⟩) hm rfl hfn0.2.1).trans (Ext.cons (e := ⟨c, 0, .cel 110, [.func (.func 74) #[] #[]]⟩) hm rfl ⟨fun h => hne h.symm, hne, hfn0.1⟩)
 have mX := eX.marks
 have hbX : findE X b = some ⟨b, 0, .cel 22, [.slice p n k]⟩ := by rw [← hX]; simp [findE, hne]
 have hcX : findE X c = some ⟨c, 0, .cel 110, [.func (.func 74) #[] #[]]⟩ := by rw [← hX]; simp [findE]
 have hbR : findE (roAll X) b = some ⟨b, 0, .ro, [.slice p n k]⟩ := by rw [findE_roAll, hbX]; rfl
 have hcR : findE (roAll X) c = some ⟨c, 0, .ro, [.func (.func 74) #[] #[]]⟩ := by rw [findE_roAll, hcX]; rfl
 have hlm : (s.map itA).length = s.length := List.length_map _
 have hit := items2_ok (Hc := roAll X) (StR.rd _ _ _ _ (cellsAt_roAll X).symm (hv0.ext eX)) hn hsl hnc (roAll_ro X).marks hbR hcR
 rw [← hlm] at hit
 refine (collectI_ok (caps := [.pointer (some ⟨b, 0, none⟩), .pointer (some ⟨c, 0, none⟩)]) hit (by rw [hlm]; exact hn) (roAll_ro X).marks (roAll_ro X).der).use (derE_sub fun _ _ h => h) ?_
 rintro w N ⟨h1, h2, ks, hks, hkl, hko⟩
 refine ⟨h1, h2, fun hf => ?_⟩
 obtain ⟨pk, kk, rfl, -⟩ := id hkl
 have hkn : ks.length = s.length := by rw [← hlm, ← hks, List.length_map]
 have eN : Ext N (N ++ X) := Ext.leftN h2 mX
 have eY : Ext X (N ++ X) := Ext.rightN hf h2 mX
 have hx : IvOk (N ++ X) (ivLs (.slice pk ks.length kk) ks) := ivLs_ok (hkl.ext eN) (by omega) fun y hy => (hko y hy).ext eN
 have hxi : (ivLs (.slice pk ks.length kk) ks).it = itSt s := by rw [ivLs_it, hks]; rfl
 have hxv : (ivLs (.slice pk ks.length kk) ks).v = .agg #[.bool true, .string (bs []), .slice pk ks.length kk] := rfl
 have hen := renc_ok hx (by rw [hxi]; exact hl)
 rw [hxi, hxv] at hen
 obtain ⟨R, hR⟩ : ∃ R, R = encR (itSt s) := ⟨_, rfl⟩
 have hR2 : R.2 = 0 → R.1.length ≤ 1048576 := by
  rw [hR]; unfold encR; intro h; split
  · split
    · assumption
    · exact Nat.zero_le _
  · exact Nat.zero_le _
 rw [← hR] at hen ⊢
 simp only [push_cast, seval, reduceCtorEq]
 refine useP [] hen trivial ?_
 obtain ⟨R1, R2⟩ := R
 dsimp only at hR2 ⊢
 clear hR
 by_cases hz : R2 = 0
 · have hz' : (R2 != 0) = false := by rw [hz]; rfl
   simp only [push_cast, seval, reduceCtorEq, hz']
   refine useP [] (M := N ++ X) (sum_R (show KonR (N ++ X) from eY.keep _ _ _ _ (eX.keep _ _ _ _ hk0)) R1 (hR2 hz)) trivial ?_
   simp only [push_cast, seval, reduceCtorEq, hz]
   rfl
 · have hz' : (R2 != 0) = true := bne_iff_ne.2 hz
   simp only [push_cast, seval, reduceCtorEq, hz', hz]
   rfl
end Go.Proofs.YtpcjmmdgopihcaaGreatDoor
namespace Go.Ev
end Go.Ev
namespace Go.Ev
end Go.Ev
namespace Go.Ev
theorem headLn_len (k n : Nat) : (headL k n).length ≤ 33 := by
 unfold headL
 split
 · simp
 · rw [List.length_cons]
   have := numL_len (W.ofInt (n : Int))
   omega
theorem textL_len (b : List UInt8) : (textL b).length ≤ b.length + 33 := by
 unfold textL
 split
 · split
   · simp
   · rw [List.length_append]
     have := headLn_len 128 1
     omega
 · rw [List.length_append]
   have := headLn_len 128 b.length
   omega
theorem encText_len (l : List UInt8) : (encL (.mk false l [])).length ≤ l.length + 33 := by rw [encL]; exact textL_len l
theorem encLs_len {n : Nat} : ∀ {ks : List It}, (∀ k ∈ ks, (encL k).length ≤ n) → (encLs ks).length ≤ ks.length * n
 | [], _ => by rw [encLs]; exact Nat.zero_le _
 | k :: r, h => by
   rw [encLs, List.length_append, List.length_cons, Nat.add_mul, Nat.one_mul]
   have h1 := h k (List.mem_cons_self ..)
   have h2 := encLs_len (ks := r) fun y hy => h y (List.mem_cons_of_mem _ hy)
   omega
theorem encList_len {n m : Nat} {ks : List It} (h : ∀ k ∈ ks, (encL k).length ≤ n) (hm : ks.length * n + 33 ≤ m) : (encL (.mk true [] ks)).length ≤ m := by
 rw [encL, List.length_append]
 have h1 := headLn_len 192 (encLs ks).length
 have h2 := encLs_len h
 omega
theorem itS_len (s : Sl) : (encL (itS s)).length ≤ 163 := by
 refine encList_len (n := 65) (fun k hk => ?_) (by simp)
 simp only [List.mem_cons, List.not_mem_nil, or_false] at hk
 rcases hk with rfl | rfl
 · exact Nat.le_trans (encText_len _) (by have := numL_len s.key; omega)
 · exact Nat.le_trans (encText_len _) (by have := numL_len s.val; omega)
end Go.Ev
namespace Go.Ev
theorem itA_len2 {a : Ac} (h : a.slots.length ≤ 1000) (hc : a.code.size ≤ 24576) : (encL (itA a)).length ≤ 200000 := by
 unfold itA
 rw [encL, List.length_append]
 have h0 := headLn_len 192 (encLs [itTx a.at_.l, itNm (W.ofInt a.nonce), itNm a.bal, itTx a.code.data.toList, .mk true [] (a.slots.map itS)]).length
 have h1 := encText_len a.at_.l
 have h2 := encText_len (numL (W.ofInt a.nonce))
 have h3 := encText_len (numL a.bal)
 have h4 := encText_len a.code.data.toList
 have h5 := encList_len (n := 163) (m := 170000) (ks := a.slots.map itS) (fun k hk => by
  obtain ⟨s, -, rfl⟩ := List.mem_map.1 hk
  exact itS_len s) (by rw [List.length_map]; omega)
 have n1 := numL_len (W.ofInt a.nonce)
 have n2 := numL_len a.bal
 have n3 : a.at_.l.length = 20 := a.at_.2
 have n4 : a.code.data.toList.length = a.code.size := by rw [Array.length_toList]; rfl
 have e : encLs [itTx a.at_.l, itNm (W.ofInt a.nonce), itNm a.bal, itTx a.code.data.toList, .mk true [] (a.slots.map itS)] = encL (.mk false a.at_.l []) ++ (encL (.mk false (numL (W.ofInt a.nonce)) []) ++ (encL (.mk false (numL a.bal) []) ++ (encL (.mk false a.code.data.toList []) ++ (encL (.mk true [] (a.slots.map itS)) ++ [])))) := by simp only [encLs]; rfl
 have e2 := congrArg List.length e
 simp only [List.length_append, List.length_nil] at e2
 omega
theorem ri_enc {s : List Ac} (hr : RiS s) : (encL (itSt s)).length ≤ 1099511627776 :=
 encList_len (n := 200000) (fun k hk => by
  obtain ⟨a, ha, rfl⟩ := List.mem_map.1 hk
  have h := mayA_iff.1 (hr.may a ha)
  exact itA_len2 h.2.2.2.len h.2.2.1) (by rw [List.length_map]; have := hr.len; omega)
theorem encD_R (x : It) : encD x = encR x := rfl
end Go.Ev
namespace Go.Proofs.YtpcjmmdgopihcaaGreatDoor
open Go Go.Ev Go.Proofs
theorem digest_any {M : Hp} {s : List Ac} {v : Value} (hk : KonR M) (hv : StR s v M) (hb : s.length ≤ 1000000) (hnc : ∀ y ∈ s, -9223372036854775808 ≤ y.nonce ∧ y.nonce ≤ 9223372036854775807) :
  ∀ M0, roM M0 → cellsAt M0 = cellsAt M → CallsV Tryz.prog 27 [v] M0 (Ret0 (.tuple #[.string (bs (digR s).1), .int .i64 (digR s).2])) :=
 digest_ok hk hv (by omega) (fun h y hy => by have := (mayA_iff.1 ((rightS_iff.1 h).may y hy)).2.2.2.len; omega) (by omega) hnc (fun h => ri_enc (rightS_iff.1 h))
theorem refdigest_R {M : Hp} {s : List Ac} {v : Value} (hv : StR s v M) (hb : s.length ≤ 1000000) (hsl : ∀ y ∈ s, y.slots.length ≤ 2199023255551) (hnc : ∀ y ∈ s, -9223372036854775808 ≤ y.nonce ∧ y.nonce ≤ 9223372036854775807) :
  ∀ M0, roM M0 → cellsAt M0 = cellsAt M → CallsV Tryz.prog 28 [v] M0 (Ret0 (.tuple #[.string (bs (digR s).1), .int .i64 (digR s).2])) := by
 intro M0 hr he
 have hm := hr.marks
 have hv0 : StR s v M0 := StR.rd _ _ _ _ he.symm hv
 obtain ⟨p, n, k, rfl, hpn⟩ : ∃ p n k, v = .slice p n k ∧ n = s.length := by
  obtain ⟨L, h1, h2, -⟩ := id hv0
  obtain ⟨p, k, h3⟩ := h2.slice
  exact ⟨p, _, k, h3, by rw [← h1, List.length_map]⟩
 refine callsO gM1_ok Tryz.mix Tryz.pl28 Tryz.func28 rfl Tryz.ntmps28 Tryz.results28 rfl (by first | rfl | assumption) (Nat.le_of_ble_eq_true rfl) (by kernel_rfl) ?_
 simp only [push_cast, seval, reduceCtorEq]
 refine useP [] (v := .bool (rightS s)) (fun M1 hr1 he1 => refRightS_ok (StR.rd _ _ _ _ he1.symm hv0) hr1.marks (by omega) hsl) trivial ?_
 unfold digR
 cases hri : rightS s with
 | false =>
   simp only [push_cast, seval, reduceCtorEq]
   rfl
 | true =>
 have hri' := rightS_iff.1 hri
 simp only [push_cast, seval, reduceCtorEq]
 refine callO (M := M0) (refitemS_ok hv0 hb (fun y hy => by have := (mayA_iff.1 (hri'.may y hy)).2.2.2.len; omega) hnc) (fun _ _ h => h) fun w N hN1 hN2 hfN hq => ?_
 obtain ⟨x, rfl, hxi, hxo⟩ := hq
 have hx : IvOk (N ++ M0) x := hxo.ext (Ext.leftN hN2 hm)
 have hen := refenc_R hx (by rw [hxi]; exact ri_enc hri')
 rw [hxi, encD_R] at hen
 obtain ⟨R, hR⟩ : ∃ R, R = encR (itSt s) := ⟨_, rfl⟩
 have hR2 : R.2 = 0 → R.1.length ≤ 1048576 := by
  rw [hR]; unfold encR; intro h; split
  · split
    · assumption
    · exact Nat.zero_le _
  · exact Nat.zero_le _
 rw [← hR] at hen ⊢
 simp only [push_cast, seval, reduceCtorEq]
 refine useP [] hen trivial ?_
 obtain ⟨R1, R2⟩ := R
 dsimp only at hR2 ⊢
 clear hR
 by_cases hz : R2 = 0
 · have hz' : (R2 != 0) = false := by rw [hz]; rfl
   simp only [push_cast, seval, reduceCtorEq, hz']
   refine (dsum_ok R1 (hR2 hz)).pure trivial ?_
   simp only [push_cast, seval, reduceCtorEq, hz]
   first | done | rfl
 · have hz' : (R2 != 0) = true := bne_iff_ne.2 hz
   simp only [push_cast, seval, reduceCtorEq, hz', hz]
   first | done | rfl
end Go.Proofs.YtpcjmmdgopihcaaGreatDoor
namespace Go.Ev
theorem u8_nat9 {k : Nat} (h : k < 256) : (UInt8.ofNat k).toNat = k := by
 rw [UInt8.toNat_ofNat']; exact Nat.mod_eq_of_lt h
theorem ad9_len (k : Nat) : (9 :: UInt8.ofNat k :: List.replicate 18 (0 : UInt8)).length = 20 := by simp
def ad9 (k : Nat) : Ad := ⟨9 :: UInt8.ofNat k :: List.replicate 18 0, ad9_len k⟩
def ac9 (i : Nat) : Ac := ⟨ad9 i, W.zero, 1, .empty, []⟩
theorem ac9_cells {k : Nat} (h : k < 256) : acC (ac9 k, .slice none 0 0) = [.int .u8 9, .int .u8 k, .int .u8 0, .int .u8 0, .int .u8 0, .int .u8 0, .int .u8 0, .int .u8 0, .int .u8 0, .int .u8 0, .int .u8 0, .int .u8 0, .int .u8 0, .int .u8 0, .int .u8 0, .int .u8 0, .int .u8 0, .int .u8 0, .int .u8 0, .int .u8 0, .int .u64 0, .int .u64 0, .int .u64 0, .int .u64 0, .int .i64 1, .string .empty, .slice none 0 0] := by
 have : byteV (9 :: UInt8.ofNat k :: List.replicate 18 0) = .int .u8 9 :: .int .u8 k :: List.replicate 18 (.int .u8 0) := by
  unfold byteV
  simp only [List.map_cons, List.map_replicate, u8_nat9 h]
  rfl
 unfold acC Ac.cells ac9 Ad.cells ad9
 dsimp only
 rw [this]
 rfl
def longP (n : Nat) : List (Ac × Value) := (List.range n).map fun i => (ac9 i, .slice none 0 0)
theorem longP_len (n : Nat) : (longP n).length = n := by unfold longP; simp
theorem longP_succ (n : Nat) : longP (n + 1) = longP n ++ [(ac9 n, .slice none 0 0)] := by unfold longP; rw [List.range_succ, List.map_append]; rfl
def longL (n : Nat) : List Ac := (longP n).map (·.1)
theorem longL_len (n : Nat) : (longL n).length = n := by unfold longL; rw [List.length_map, longP_len]
theorem longL_sl (n : Nat) : ∀ y ∈ longL n, y.slots.length ≤ 2199023255551 := fun y hy => by
 unfold longL longP at hy
 rw [List.map_map] at hy
 obtain ⟨j, -, rfl⟩ := List.mem_map.1 hy
 exact Nat.zero_le _
theorem putS_len9 (s : List Ac) (x : Ac) : (putS s x).length ≤ s.length + 1 + s.length := by
 unfold putS
 rw [List.length_append, List.length_append]
 have h1 : (if emptyA x then [] else [x]).length ≤ 1 := by split <;> simp
 have h2 := List.length_filter_le (fun y => decide (y.at_.num < x.at_.num)) s
 have h3 := List.length_filter_le (fun y => decide (x.at_.num < y.at_.num)) s
 omega
theorem setS_bd {s : List Ac} {x : Ac} (h : ∀ y ∈ s, y.slots.length ≤ 2199023255551) : ∀ y ∈ (setS s x).1, y.slots.length ≤ 2199023255551 := fun y hy => by
 unfold setS at hy
 split at hy
 · rename_i hc
   rw [Bool.and_eq_true] at hc
   split at hy
   · cases hy
   · rcases putS_mem hy with ⟨rfl, -⟩ | ⟨h1, -⟩
     · have := (mayA_slots hc.2).len; omega
     · exact h y h1
 · cases hy
theorem setS_ln {s : List Ac} {x : Ac} {n : Nat} (h : s.length ≤ n) : (setS s x).1.length ≤ n + 1 + n := by
 unfold setS
 split
 · split
   · exact Nat.zero_le _
   · have := putS_len9 s x
     dsimp only
     omega
 · exact Nat.zero_le _
theorem doS_bd {s : List Ac} {c : Ch} (h : ∀ y ∈ s, y.slots.length ≤ 2199023255551) : ∀ y ∈ (doS s c).1, y.slots.length ≤ 2199023255551 := fun y hy => by
 unfold doS at hy
 split at hy
 · exact h y hy
 split at hy
 · exact h y hy
 split at hy
 · exact h y hy
 · exact setS_bd h y hy
theorem doS_ln {s : List Ac} {c : Ch} {n : Nat} (h : s.length ≤ n) : (doS s c).1.length ≤ n + 1 + n := by
 unfold doS
 split
 · dsimp only; omega
 split
 · dsimp only; omega
 split
 · dsimp only; omega
 · exact setS_ln h
theorem StR.take {s : List Ac} {p : Option Addr} {n k m : Nat} {H : Hp} (h : StR s (.slice p n k) H) (hm : m ≤ s.length) : StR (s.take m) (.slice p m k) H := by
 obtain ⟨L, h1, h2, h3⟩ := h
 have hl : s.length = L.length := by rw [← h1, List.length_map]
 exact ⟨L.take m, by rw [List.map_take, h1], LiR.take acC_len h2 (by omega), fun x hx => h3 x (List.mem_of_mem_take hx)⟩
end Go.Ev
namespace Go.Proofs.YtpcjmmdgopihcaaGreatDoor
open Go Go.Ev Go.Proofs
theorem refDo_R {M : Hp} {s : List Ac} {v : Value} {c : Ch} (hv : StR s v M) (hn : s.length ≤ 1000000000) (hsl : ∀ y ∈ s, y.slots.length ≤ 2199023255551) : CallsR Tryz.prog 26 [v, c.v] M (DoR (doS s c)) :=
 (refDo_ok hv hn hsl).toR fun v N1 A _ _ hf hq => by
  obtain ⟨w, rfl, hq⟩ := hq
  exact ⟨w, rfl, hq.r hf⟩
theorem refSet_R {M : Hp} {s : List Ac} {v sv : Value} {x : Ac} (hv : StR s v M) (hx : LiR Sl.cells 8 M x.slots sv) (hn : s.length ≤ 1000000000) (hsl : ∀ y ∈ s, y.slots.length ≤ 2199023255551) (hxl : x.slots.length ≤ 2199023255551) : CallsR Tryz.prog 23 [v, .agg (x.cells sv).toArray] M (SetR (setS s x)) :=
 (refSet_ok hv hx hn hsl hxl).toR fun v N1 A _ _ hf hq => by
  obtain ⟨w, rfl, hq⟩ := hq
  exact ⟨w, rfl, hq.r hf⟩
theorem sright_N {M : Hp} {s : List Ac} {v : Value} (hv : StR s v M) (hn : s.length ≤ 1000000) : ∀ M0, roM M0 → cellsAt M0 = cellsAt M → CallsV Tryz.prog 12 [v] M0 (Ret0 (.bool (rightS s))) := fun M0 hr he => sright_ok (StR.rd _ _ _ _ he.symm hv) hr.marks (by omega)
theorem refright_N {M : Hp} {s : List Ac} {v : Value} (hv : StR s v M) (hn : s.length ≤ 1000000) (hsl : ∀ y ∈ s, y.slots.length ≤ 2199023255551) : ∀ M0, roM M0 → cellsAt M0 = cellsAt M → CallsV Tryz.prog 13 [v] M0 (Ret0 (.bool (rightS s))) := fun M0 hr he => refRightS_ok (StR.rd _ _ _ _ he.symm hv) hr.marks (by omega) hsl
theorem refsame_N {M : Hp} {s t : List Ac} {v u : Value} (hv : StR s v M) (hu : StR t u M) (hn : s.length ≤ 3000000) (hn2 : t.length ≤ 3000000) (h1 : ∀ x ∈ s, x.slots.length ≤ 2199023255551) (h2 : ∀ x ∈ t, x.slots.length ≤ 2199023255551) : ∀ M0, roM M0 → cellsAt M0 = cellsAt M → CallsV Tryz.prog 15 [v, u] M0 (Ret0 (.bool (decide (s = t)))) := fun M0 hr he =>
 sameS_ok (StR.rd _ _ _ _ he.symm hv) (StR.rd _ _ _ _ he.symm hu) hr.marks (by omega) (by omega) h1 h2
theorem empty_N {M : Hp} {x : Ac} {sv : Value} (hs : LiR Sl.cells 8 M x.slots sv) : ∀ M0, roM M0 → cellsAt M0 = cellsAt M → CallsV Tryz.prog 16 [.agg (x.cells sv).toArray] M0 (Ret0 (.bool (emptyA x))) := fun M0 hr he => empty_ok (hs.congr he.symm) hr.marks
theorem refempty_N {M : Hp} {x : Ac} {sv : Value} (hs : LiR Sl.cells 8 M x.slots sv) : ∀ M0, roM M0 → cellsAt M0 = cellsAt M → CallsV Tryz.prog 17 [.agg (x.cells sv).toArray] M0 (Ret0 (.bool (emptyA x))) := fun M0 hr he => refEmpty_ok (hs.congr he.symm) hr.marks
theorem sameac_N {M : Hp} {x : Ac} {sx sy : Value} (hx : LiR Sl.cells 8 M x.slots sx) (hy : LiR Sl.cells 8 M x.slots sy) (h1 : x.slots.length ≤ 2199023255551) : ∀ M0, roM M0 → cellsAt M0 = cellsAt M → CallsV Tryz.prog 19 [.agg (x.cells sx).toArray, .agg (x.cells sy).toArray] M0 (Ret0 (.bool true)) := fun M0 hr he => by
 have := sameAc_ok (hx.congr he.symm) (hy.congr he.symm) hr.marks h1 h1
 rw [decide_eq_true rfl] at this
 exact this
end Go.Proofs.YtpcjmmdgopihcaaGreatDoor
