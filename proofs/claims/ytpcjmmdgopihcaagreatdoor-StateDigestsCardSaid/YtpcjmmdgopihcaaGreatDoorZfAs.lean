/- Texts of this claim, merged by program: Nk Nl Nm Io Iq Nn In Ir Is No. -/
import Derived.Test.YtpcjmmdgopihcaaGreatDoorZfAp
import Derived.Test.YtpcjmmdgopihcaaGreatDoorZfAr
import Derived.Test.YtpcjmmdgopihcaaGreatDoorZfAg
set_option linter.unusedSimpArgs false
set_option linter.unusedVariables false
namespace Go.Ev
theorem YieldV.preN {P : Program} {l : Nat} {args : List Value} {H H' : Hp} {K : Value → Hp → Prop} (hp : H.Perm H') (hm : marksOf H' = marksOf H) (h : YieldV P l args H' K) : YieldV P l args H K :=
  fun w0 mu w hs => by have := h w0 mu w (hs.perm hp); rwa [hm] at this
def VI (ts : List It) (k : Nat) (args : List Value) (N : Hp) : Prop := ∃ t, ts[k]? = some t ∧ ∃ x : Iv, args = [x.v] ∧ x.it = t ∧ IvOk N x
end Go.Ev
namespace Go.Proofs.YtpcjmmdgopihcaaGreatDoor
open Go Go.Ev Go.Proofs
set_option maxRecDepth 100000
set_option maxHeartbeats 4000000
def plIt2 : Plans := fun i => if i = 3 then [] else Tryz.pl76 i
attribute [push_cast] plIt2
theorem items2_ok {Hc : Hp} {s : List Ac} {v : Value} {b c : Nat} {kb kc : Kind} (hv : StR s v Hc) (hn : s.length ≤ 1099511627776) (hsl : ∀ y ∈ s, y.slots.length ≤ 1099511627776) (hnc : ∀ y ∈ s, -9223372036854775808 ≤ y.nonce ∧ y.nonce ≤ 9223372036854775807) (hmc : marksOf Hc = []) (hb : findE Hc b = some ⟨b, 0, kb, [v]⟩) (hc : findE Hc c = some ⟨c, 0, kc, [.func (.func 74) #[] #[]]⟩) :
    IterN Tryz.prog 76 [.pointer (some ⟨b, 0, none⟩), .pointer (some ⟨c, 0, none⟩)] Hc s.length (VI (s.map itA)) := by
  refine ⟨enterO Tryz.func76 rfl rfl, fun X Ho I St l x0 hro hmk h0 hy => ?_⟩
  have hmarks : ∀ x, marksOf (Hc ++ Ho x) = [] := fun x => by rw [marks_append, hmc, hmk]; rfl
  have hm0 := hmarks x0
  have hb' := fun z => findE_appT (B := Ho z) hb
  have hc' := fun z => findE_appT (B := Ho z) hc
  obtain ⟨L, rfl, hL, hLs⟩ := hv
  have hlen : (L.map (·.1)).length = L.length := List.length_map _
  rw [hlen] at hn
  obtain ⟨p, k, rfl, hla⟩ := hL.openA
  have yf : ∀ (x' : X), (I (L.map (·.1)).length x' ∨ St x') → ∃ H'_1, List.Sublist H'_1 (dropM (Hc ++ Ho x')) ∧ ∃ x, (I (L.map (·.1)).length x ∨ St x) ∧ H'_1 = Ho x := fun x' hst => by
    refine ⟨Ho x', ?_, x', hst, rfl⟩
    rw [dropM_eq (hmarks x')]
    exact List.sublist_append_right _ _
  refine callsO gN4_ok Tryz.mix plIt2 Tryz.func76 rfl Tryz.ntmps76 Tryz.results76 rfl (by first | rfl | assumption) (Nat.le_of_ble_eq_true rfl) (by kernel_rfl) ?_
  simp only [push_cast, seval, reduceCtorEq, hb', hlen]
  refine loopO gN4_ok (pl := plIt2) Tryz.mix (X := Nat × X)
    (fun s => ([(0, .func (.yield l) #[] #[]), (1, .pointer (some ⟨b, 0, none⟩)), (2, .pointer (some ⟨c, 0, none⟩)), (6, .slice p L.length k), (7, .int .i64 L.length), (8, .int .i64 s.1)], Hc ++ Ho s.2))
    (fun s => s.1 ≤ L.length ∧ I s.1 s.2) (fun s => L.length - s.1) (0, x0) ⟨Nat.zero_le _, h0⟩ ?_ (by kernel_rfl) ?_
  · simp only [push_cast, seval, reduceCtorEq, hm0, subH_self]
  · rintro ⟨i, z⟩ ⟨hi, hI⟩
    dsimp only at hi hI ⊢
    have hGb := hb' z
    have hGc := hc' z
    rcases Nat.lt_or_ge i L.length with hlt | hge
    · obtain ⟨⟨a, sv⟩, hx⟩ : ∃ x, L[i]? = some x := ⟨L[i], List.getElem?_eq_getElem hlt⟩
      rcases hla with rfl | ⟨bb, f, d, kd, cs, rfl, he, hat⟩
      · simp at hx
      obtain ⟨-, a1, a2⟩ := hat i _ hx
      have hxs := hLs _ (List.mem_of_getElem? hx)
      have ham : a ∈ L.map (·.1) := List.mem_map_of_mem (f := (·.1)) (List.mem_of_getElem? hx)
      have a0 : (a.cells sv).all oneC = true := Ac.all1 a sv hxs.one
      have hee := findE_appT (B := Ho z) he
      have i1 : (i : Int) < (L.length : Int) := by omega
      have c27 : acC (a, sv) = a.cells sv := rfl
      obtain ⟨g1, g2, g3, g4, g5, g6⟩ := Ac.get a sv
      have l27 : List.take 27 (a.cells sv) = a.cells sv := List.take_of_length_le (Nat.le_of_eq g6)
      simp only [push_cast, seval, reduceCtorEq, i1, hlt, hee, a1, a2, c27, a0, g6, l27]
      intro b5 hb5
      have hY : ∀ q e, findE Hc q = some e → findE (⟨b5, 0, .cel 31, a.cells sv⟩ :: (Hc ++ Ho z)) q = some e := fun q e h => by
        have h1 := findE_appT (B := Ho z) h
        rw [findE, if_neg (show ¬ q = b5 from (fresh_findS hb5 h1).2)]
        exact h1
      refine drawO gN4_ok Tryz.mix [(0, 0), (1, 0), (2, 0), (5, 0), (6, 0), (9, 0), (10, 0), (12, 0), (13, 0), (15, 0), (16, 0), (17, 0), (3, 2), (4, 2), (7, 0), (8, 2), (11, 2), (14, 2), (18, 2), (19, 2), (20, 2), (21, 2), (22, 1), (23, 0)] (by decide +kernel) ?_
      have hbt : bytesOf a.at_.cells = some a.at_.l := bytesOf_byteV _
      obtain ⟨n1, n2⟩ := hnc a ham
      have va : ∀ w : W, Value.agg w.cells.toArray = w.v := fun _ => rfl
      have d2 := (fresh_findS hb5 hGc).2
      simp only [push_cast, seval, reduceCtorEq, hb5, g1, g2, g3, g4, g5, g6, hbt, n1, n2, va, d2, hGc]
      refine callO (M := Hc) (mappedS_ok hxs (hsl a ham)) hY fun v N hN1 hN2 hfN hq => ?_
      obtain ⟨ks, hks, hkl, hkok⟩ := hq
      obtain ⟨pk, kk, rfl, -⟩ := id hkl
      have hkn : ks.length ≤ 1099511627776 := by
        have h1 := congrArg List.length hks
        rw [List.length_map, List.length_map] at h1
        have h2 := hsl a ham
        dsimp only at h1
        omega
      simp only [push_cast, seval, reduceCtorEq]
      refine ⟨subH_new (⟨b5, 0, .cel 31, a.cells sv⟩ :: (Hc ++ Ho z)) N (fun e he x hx => freshN_iff.1 hfN e he x hx), fun b32 hb32 => ⟨subH_cons hb32, ?_⟩⟩
      have hcode : bs a.code.data.toList = a.code := by obtain ⟨m, hm⟩ := bs_of a.code; rw [hm, bs_data]
      obtain ⟨KS, hKS⟩ : ∃ KS : List Iv, KS = [ivTx a.at_.l, ivTx (numL (W.ofInt a.nonce)), ivTx (numL a.bal), ivTx a.code.data.toList, ivLs (.slice pk ks.length kk) ks] := ⟨_, rfl⟩
      have hcl : [.bool false, .string { data := a.at_.l.toArray }, .slice none 0 0, .bool false, .string (bs (numL (W.ofInt a.nonce))), .slice none 0 0, .bool false, .string (bs (numL a.bal)), .slice none 0 0, .bool false, .string a.code, .slice none 0 0, .bool true, .string (bs []), .slice pk ks.length kk] = KS.flatMap Iv.cells := by
        rw [hKS]
        conv => lhs; rw [← hcode]
        rfl
      have hKl : KS.length = 5 := by rw [hKS]; rfl
      obtain ⟨E32, hE32⟩ : ∃ E : Ent, E = ⟨b32, 0, .vec 90 3 5, KS.flatMap Iv.cells⟩ := ⟨_, rfl⟩
      obtain ⟨E5, hE5⟩ : ∃ E : Ent, E = ⟨b5, 0, .cel 31, a.cells sv⟩ := ⟨_, rfl⟩
      rw [hcl, ← hE32, ← hE5]
      rw [← hE5] at hfN hb32
      have m32 : ∀ X : Hp, marksOf (E32 :: X) = marksOf X := fun X => by rw [hE32]; rfl
      have m5 : ∀ X : Hp, marksOf (E5 :: X) = marksOf X := fun X => by rw [hE5]; rfl
      have mN0 : marksOf ([] : Hp) = [] := rfl
      have f32 : fresh b32 N := (fresh_app_iff.1 hb32).1
      have hext : Ext N (E32 :: N) := Ext.cons hN2 (m32 []) (by rw [hE32]; exact f32)
      have hok : IvOk (E32 :: N) (ivLs (.slice (some ⟨b32, 0, none⟩) 5 5) KS) := by
        refine ivLs_ok (by rw [hE32]; exact LiR.vecI hKl.symm) (by rw [hKl]; decide) fun y hy => ?_
        rw [hKS] at hy
        simp only [List.mem_cons, List.not_mem_nil, or_false] at hy
        rcases hy with rfl | rfl | rfl | rfl | rfl
        · exact ivTx_ok _ _
        · exact ivTx_ok _ _
        · exact ivTx_ok _ _
        · exact ivTx_ok _ _
        · exact ivLs_ok (hkl.ext hext) hkn fun y hy => (hkok y hy).ext hext
      have hit : (ivLs (.slice (some ⟨b32, 0, none⟩) 5 5) KS).it = itA a := by
        rw [ivLs_it, hKS]
        simp only [List.map_cons, List.map_nil, ivTx_it, ivLs_it, hks]
        rfl
      refine YieldV.preN (H' := E5 :: (Hc ++ ((E32 :: N) ++ Ho z))) ?_ ?_ ?_
      · classical
        refine List.perm_iff_count.2 fun a => ?_
        simp only [List.count_append, List.count_cons, List.count_nil]
        omega
      · simp [marks_append, m32, m5, hmc, hmk, hN2]
      refine (hy i z [(ivLs (.slice (some ⟨b32, 0, none⟩) 5 5) KS).v] (E32 :: N) (by rw [hlen]; exact hlt) ⟨itA a, by rw [List.getElem?_map, List.getElem?_map, hx]; rfl, _, rfl, hit, hok⟩ ⟨by rw [hE32]; trivial, hN1⟩ (by rw [m32]; exact hN2) hI).frame2 ?_ (m5 []) ?_
      · rintro v H' (⟨rfl, x', _, rfl⟩ | ⟨rfl, x', _, rfl⟩) <;> exact fun e he => (hro z x' e he).imp id (List.mem_append_right _)
      · rintro v H' (⟨rfl, x', h, rfl⟩ | ⟨rfl, x', h, rfl⟩)
        · simp only [push_cast, seval, reduceCtorEq, wrap_i64' (show -9223372036854775808 ≤ (i : Int) + 1 ∧ (i : Int) + 1 ≤ 9223372036854775807 by omega)]
          refine ⟨(i + 1, x'), ⟨hlt, h⟩, by dsimp only; omega, ⟨rfl, ?_, ?_⟩⟩
          · rw [← List.append_assoc]; exact subH_frontN _ _
          · rw [← List.append_assoc, marks_append (Hc ++ Ho x'), m5, mN0, List.append_nil]
        · simp only [push_cast, seval, reduceCtorEq]
          refine ⟨Ho x', ?_, x', .inr h, rfl⟩
          rw [← List.append_assoc, dropM_eq (by rw [marks_append, hmarks, m5]; rfl)]
          exact (List.sublist_append_right _ _).trans (List.sublist_append_left _ _)
    · obtain rfl : i = L.length := by omega
      simp only [push_cast, seval, reduceCtorEq, Int.lt_irrefl]
      rw [hlen] at yf
      exact yf z (.inl hI)
end Go.Proofs.YtpcjmmdgopihcaaGreatDoor
set_option linter.unusedSimpArgs false
set_option linter.unusedVariables false
namespace Go.Ev
abbrev ColX := { s : Value × Hp × List Iv × Hp // allWr s.2.1 ∧ marksOf s.2.1 = [] ∧ allWr s.2.2.2 ∧ marksOf s.2.2.2 = [] }
end Go.Ev
namespace Go.Proofs.YtpcjmmdgopihcaaGreatDoor
open Go Go.Ev Go.Proofs
set_option maxRecDepth 100000
set_option maxHeartbeats 4000000
attribute [-push_cast] evAppend_nil evAppend_some slAddr
def colH (b : Nat) (s : ColX) : Hp := s.1.2.1 ++ (s.1.2.2.2 ++ [⟨b, 0, .cel 88, [s.1.1]⟩])
theorem colH_wr (b : Nat) (s : ColX) : ∀ e ∈ colH b s, e.wr := fun e he => by
  rcases List.mem_append.1 he with h | h
  · exact allWr_mem s.2.1 e h
  · rcases List.mem_append.1 h with h | h
    · exact allWr_mem s.2.2.2.1 e h
    · rw [List.mem_singleton.1 h]; trivial
theorem colH_marks (b : Nat) (s : ColX) : marksOf (colH b s) = [] := by
  unfold colH
  rw [marks_append, marks_append, s.2.2.1, s.2.2.2.2]
  rfl
def plApS : Plans := fun i => if i = 3 then [] else Tryz.pl73 i
attribute [push_cast] plApS
theorem appSeqI_ok {gf : FuncId} {caps : List Value} {Hc : Hp} {ts : List It} (hit : IterN Tryz.prog gf caps Hc ts.length (VI ts)) (hn : ts.length ≤ 1099511627776) (hmc : marksOf Hc = []) : CallsV Tryz.prog 73 [.slice none 0 0, .func (.func gf) #[] caps.toArray] Hc (fun v N => allWr N ∧ marksOf N = [] ∧ ItsQ ts v N) := by
  refine callsO gN4_ok Tryz.mix plApS Tryz.func73 rfl Tryz.ntmps73 Tryz.results73 rfl (by first | rfl | assumption) (Nat.le_of_ble_eq_true rfl) (by kernel_rfl) ?_
  simp only [push_cast, seval, reduceCtorEq]
  intro b2 hb2
  refine rangeNO gN4_ok (pl := plApS) Tryz.mix (Hc := Hc) (Hm := []) hit rfl
    (X := ColX) (colH b2)
    (fun k s => s.1.2.2.1.map Iv.it = ts.take k ∧ s.1.2.2.1.length = k ∧ OutC 90 3 (s.1.2.2.1.flatMap Iv.cells) k s.1.1 s.1.2.1 ∧ freshN s.1.2.1 (s.1.2.2.2 ++ [⟨b2, 0, .cel 88, [s.1.1]⟩]) ∧ freshN s.1.2.2.2 [⟨b2, 0, .cel 88, [s.1.1]⟩] ∧ ∀ y ∈ s.1.2.2.1, IvOk s.1.2.2.2 y) (fun _ _ => False) ⟨(.slice none 0 0, [], [], []), trivial, rfl, trivial, rfl⟩
    ?_ ?_ ?_ hmc (by simp) (colH_marks b2) (fun x y e he => .inl (colH_wr b2 y e he)) ?_ (by kernel_rfl) (by kernel_rfl) (fun _ _ h => h.elim) ?_ ?_ (fun _ _ _ _ h => h.elim)
  · exact ⟨by simp, rfl, .nil _ _, trivial, trivial, fun y hy => by cases hy⟩
  · exact subH_rotI hb2
  · simp [marksOf, hmc]
  · rintro k args N ⟨t, -, x, rfl, -⟩
    rfl
  · rintro lo k ⟨⟨vo, No, ks, W'⟩, hNw, hNm, hWw, hWm⟩ args N hkn ⟨t, htk, x, rfl, hxt, hxo⟩ hN1 hN2 hfr ⟨hks, hkl, ho, hf, hf2, hok⟩
    dsimp only at hNw hNm hWw hWm hks hkl ho hf hf2 hok hfr
    subst hkl
    have xall : x.cells.all oneC = true := Iv.all1 hxo.one
    have xv : x.v.cells.toList = x.cells := rfl
    have x3 : List.take 3 x.cells = x.cells := List.take_of_length_le (Nat.le_of_eq rfl)
    obtain ⟨po, co, rfl⟩ := ho.slice
    have hmA : marksOf (N ++ (No ++ (W' ++ [⟨b2, 0, .cel 88, [.slice po ks.length co]⟩]))) = [] := by rw [marks_append, marks_append, marks_append, hN2, hNm, hWm]; rfl
    have hfr' : freshN N (No ++ (W' ++ [⟨b2, 0, .cel 88, [.slice po ks.length co]⟩])) := hfr
    have hF2 : findE (N ++ (No ++ (W' ++ [⟨b2, 0, .cel 88, [.slice po ks.length co]⟩]))) b2 = some ⟨b2, 0, .cel 88, [.slice po ks.length co]⟩ := find_behindN hfr' b2 _ (find_behindN hf b2 _ (find_behindN hf2 b2 _ (by simp [findE])))
    generalize hRK : (roundK _ _ _ ks.length : Exit → Tm → Hp → Prop) = RK
    show oC _ _ _ _ _ _ (thenK (bKont _ _ _ _ _ _ _ (N ++ (No ++ (W' ++ [⟨b2, 0, .cel 88, [.slice po ks.length co]⟩])))) _) (parT 15 _ _ [x.v]) (N ++ (No ++ (W' ++ [⟨b2, 0, .cel 88, [.slice po ks.length co]⟩])))
    simp only [push_cast, seval, reduceCtorEq, hmA, xall, Iv.len, xv]
    intro b5 hb5
    have d52 := (fresh_findS hb5 hF2).2
    refine drawO gN4_ok Tryz.mix (Tryz.pl73 3) (by kernel_rfl) ?_
    simp only [push_cast, seval, reduceCtorEq, hF2, d52, x3, Iv.len]
    intro b11 hb11
    have f11 := hb11.2.2
    refine ⟨?_, ?_⟩
    · simp only [push_cast, seval, reduceCtorEq, hb11]
    have fN : ∀ {A : Hp} {B : Hp}, freshN N (A ++ B) → freshN N A ∧ freshN N B := fun h => ⟨freshN_iff.2 fun e he x hx => freshN_iff.1 h e he x (List.mem_append_left _ hx), freshN_iff.2 fun e he x hx => freshN_iff.1 h e he x (List.mem_append_right _ hx)⟩
    refine push_outA (c := Iv.cells) (x := ivTx []) (by_ := 48) (q := 3) (ag := true) (⟨b5, 0, .cel 90, x.cells⟩ :: N) ho ⟨(fresh_app_iff.1 (fresh_app_iff.1 f11).2).1, (fresh_app_iff.1 (fresh_app_iff.1 hb5).2).1, (fN hfr').1⟩ (by simp only [push_cast, seval, reduceCtorEq]) (by simp only [push_cast, seval, reduceCtorEq]) (Iv.len _) rfl (by unfold two47; omega) fun v' N' ho' hf' => ?_
    rcases ho' with ⟨h0, -⟩ | ⟨g, c', hn0, rfl, hc', hcl, rfl⟩
    · rw [List.length_append] at h0; exact absurd h0 (by simp)
    obtain ⟨⟨g11, g11', g5, g5', gX⟩, -⟩ := hf'
    have hlen1 : (ks ++ [ivTx []]).length = ks.length + 1 := by rw [List.length_append]; rfl
    have hfl : (ks.flatMap Iv.cells).length = ks.length * 3 := flatMap_len Iv.len ks
    have hcs : (ks ++ [ivTx []]).flatMap Iv.cells = ks.flatMap Iv.cells ++ (ivTx []).cells := by rw [List.flatMap_append]; simp
    have htk3 : List.take (ks.length * 3) ((ks ++ [ivTx []]).flatMap Iv.cells) = ks.flatMap Iv.cells := by rw [hcs, ← hfl]; exact List.take_left ..
    have hdr3 : List.drop (ks.length * 3 + 3) ((ks ++ [ivTx []]).flatMap Iv.cells) = [] := by rw [hcs]; exact List.drop_of_length_le (by rw [List.length_append, hfl]; exact Nat.le_refl _)
    have d11 : ¬ b2 = b11 := (fresh_findS f11 hF2).2
    have gX' : fresh g (N ++ (W' ++ [(⟨b2, 0, .cel 88, [.slice po ks.length co]⟩ : Ent)])) := gX
    have gN := (fresh_app_iff.1 gX').1
    have gW := (fresh_app_iff.1 (fresh_app_iff.1 gX').2).1
    have f12 : freshN N (W' ++ [(⟨b2, 0, .cel 88, [.slice po ks.length co]⟩ : Ent)]) := (fN hfr').2
    have hF3 : findE (N ++ (W' ++ [(⟨b2, 0, .cel 88, [.slice po ks.length co]⟩ : Ent)])) b2 = some ⟨b2, 0, .cel 88, [.slice po ks.length co]⟩ := find_behindN f12 b2 _ (find_behindN hf2 b2 _ (by simp [findE]))
    have hU : ∀ cs, updE (N ++ (W' ++ [(⟨b2, 0, .cel 88, [.slice po ks.length co]⟩ : Ent)])) b2 cs = N ++ (W' ++ [(⟨b2, 0, .cel 88, cs⟩ : Ent)]) := fun cs => by
      rw [updE_left f12 (find_behindN hf2 b2 (⟨b2, 0, .cel 88, [.slice po ks.length co]⟩ : Ent) (by simp [findE]))]
      exact congrArg (N ++ ·) (updE_freshN hf2 cs)
    have g2 : ¬ b2 = g := (fresh_findS gX' hF3).2
    have i1 : (ks.length : Int) < (ks.length : Int) + 1 := by omega
    have hl3 : ((ks ++ [ivTx []]).flatMap Iv.cells).length = ks.length * 3 + 3 := by rw [hcs, List.length_append, hfl]; rfl
    have i2 : ks.length * 3 + 3 ≤ (List.flatMap Iv.cells (ks ++ [ivTx []])).length := Nat.le_of_eq hl3.symm
    simp only [push_cast, seval, reduceCtorEq, Iv.len, i1, i2, xall, hF3, hU, g2, d11, d52, htk3, hdr3, hlen1]
    rw [← hRK]
    have fNW : freshN N W' := (fN f12).1
    have mNW : marksOf (N ++ W') = [] := by rw [marks_append, hN2, hWm]; rfl
    have eN : Ext N (N ++ W') := Ext.leftN hN2 hWm
    have eW : Ext W' (N ++ W') := Ext.rightN fNW hN2 hWm
    have e5 : Ext (N ++ W') ((⟨b5, 0, .cel 90, x.cells⟩ : Ent) :: (N ++ W')) := Ext.cons mNW rfl (fresh_app_iff.2 ⟨(fresh_app_iff.1 hb5).1, (fresh_app_iff.1 (fresh_app_iff.1 (fresh_app_iff.1 hb5).2).2).1⟩)
    have e11 : Ext ((⟨b5, 0, .cel 90, x.cells⟩ : Ent) :: (N ++ W')) ((⟨b11, 0, .vec 90 3 1, (ivTx []).cells⟩ : Ent) :: ⟨b5, 0, .cel 90, x.cells⟩ :: (N ++ W')) := Ext.cons mNW rfl ⟨hb11.1, hb11.2.1, fresh_app_iff.2 ⟨(fresh_app_iff.1 f11).1, (fresh_app_iff.1 (fresh_app_iff.1 (fresh_app_iff.1 f11).2).2).1⟩⟩
    have hcx : (ks ++ [x]).flatMap Iv.cells = ks.flatMap Iv.cells ++ x.cells := by rw [List.flatMap_append]; simp
    have hlx : (ks ++ [x]).length = ks.length + 1 := by rw [List.length_append]; rfl
    refine ⟨⟨(.slice (some ⟨g, 0, none⟩) (ks.length + 1) c', [⟨g, 0, .vec 90 3 c', ks.flatMap Iv.cells ++ x.cells⟩], ks ++ [x], (⟨b11, 0, .vec 90 3 1, (ivTx []).cells⟩ : Ent) :: ⟨b5, 0, .cel 90, x.cells⟩ :: (N ++ W')), ⟨trivial, trivial⟩, rfl, ⟨trivial, trivial, allWr_app hN1 hWw⟩, by simp only [marksOf, marks_append, hN2, hWm]; rfl⟩, ⟨?_, hlx, ?_, ?_, ?_, ?_⟩, ?_⟩
    · dsimp only
      rw [List.map_append, hks, List.map_cons, List.map_nil, hxt, List.take_add_one, htk]; rfl
    · dsimp only
      rw [hcx]
      exact .inr ⟨g, c', by omega, rfl, by omega, by rw [List.length_append, hfl, x.len]; omega, rfl⟩
    · dsimp only
      exact ⟨⟨g11, g11', g5, g5', fresh_app_iff.2 ⟨fresh_app_iff.2 ⟨gN, gW⟩, (fresh_app_iff.1 (fresh_app_iff.1 gX').2).2⟩⟩, trivial⟩
    · dsimp only
      have hNW : freshN (N ++ W') [(⟨b2, 0, .cel 88, [.slice po ks.length co]⟩ : Ent)] := freshN_iff.2 fun e he => by
        rcases List.mem_append.1 he with h | h
        · exact freshN_iff.1 (fN f12).2 e h
        · exact freshN_iff.1 hf2 e h
      have w2 : ∀ {A : Hp}, freshN A [(⟨b2, 0, .cel 88, [.slice po ks.length co]⟩ : Ent)] → freshN A [(⟨b2, 0, .cel 88, [.slice (some ⟨g, 0, none⟩) (ks.length + 1) c']⟩ : Ent)] := fun h => freshN_iff.2 fun e he x hx => by
        rw [List.mem_singleton.1 hx]
        exact freshN_iff.1 h e he (⟨b2, 0, .cel 88, [.slice po ks.length co]⟩ : Ent) (List.mem_singleton.2 rfl)
      exact ⟨(fresh_app_iff.1 (fresh_app_iff.1 (fresh_app_iff.1 f11).2).2).2, (fresh_app_iff.1 (fresh_app_iff.1 (fresh_app_iff.1 hb5).2).2).2, w2 hNW⟩
    · dsimp only
      intro y hy
      rcases List.mem_append.1 hy with hy | hy
      · exact (hok y hy).ext (eW.trans (e5.trans e11))
      · rw [List.mem_singleton.1 hy]
        exact hxo.ext (eN.trans (e5.trans e11))
    · unfold colH
      dsimp only
      simp only [List.cons_append, List.nil_append, List.append_assoc]
      exact subH_self _
  · rintro D ⟨⟨vo, No, ks, W'⟩, hNw, hNm, hWw, hWm⟩ hfD ⟨hks, hkl, ho, hf, hf2, hok⟩
    dsimp only at hNw hNm hWw hWm hks hkl ho hf hf2 hok hfD
    have fbo : findE (No ++ (W' ++ [(⟨b2, 0, .cel 88, [vo]⟩ : Ent)])) b2 = some ⟨b2, 0, .cel 88, [vo]⟩ := find_behindN hf b2 _ (find_behindN hf2 b2 _ (by simp [findE]))
    unfold colH at hfD ⊢
    dsimp only at hfD ⊢
    have hDb : ¬ b2 = D := (fresh_findS hfD fbo).2
    have hm : marksOf (No ++ (W' ++ [(⟨b2, 0, .cel 88, [vo]⟩ : Ent)])) = [] := by rw [marks_append, marks_append, hNm, hWm]; rfl
    simp only [push_cast, seval, reduceCtorEq, hDb, fbo]
    rw [List.take_length] at hks
    refine ⟨No ++ W', ?_, allWr_app hNw hWw, by rw [marks_append, hNm, hWm]; rfl, ks, hks, ho.liR hkl.symm rfl _, fun y hy => (hok y hy).ext (Ext.rightN (freshN_iff.2 fun e he x hx => freshN_iff.1 hf e he x (List.mem_append_left _ hx)) hNm hWm)⟩
    rw [dropM_eq hm, ← List.append_assoc]
    exact List.sublist_append_left _ _
theorem collectI_ok {gf : FuncId} {caps : List Value} {Hc : Hp} {ts : List It} (hit : IterN Tryz.prog gf caps Hc ts.length (VI ts)) (hn : ts.length ≤ 1099511627776) (hmc : marksOf Hc = []) (hd : derE Hc Hc) : CallsV Tryz.prog 54 [.func (.func gf) #[] caps.toArray] Hc (fun v N => allWr N ∧ marksOf N = [] ∧ ItsQ ts v N) := by
  refine callsO gN4_ok Tryz.mix Tryz.pl54 Tryz.func54 rfl Tryz.ntmps54 Tryz.results54 rfl (by first | rfl | assumption) (Nat.le_of_ble_eq_true rfl) (by kernel_rfl) ?_
  simp only [push_cast, seval, reduceCtorEq]
  refine (appSeqI_ok hit hn hmc).use hd ?_
  rintro v N ⟨h1, h2, h3⟩
  refine ⟨h1, h2, fun hf => ?_⟩
  have hm : marksOf (N ++ Hc) = [] := by rw [marks_append, h2, hmc]; rfl
  simp only [push_cast, seval, reduceCtorEq]
  refine ⟨N, ?_, h1, h2, h3⟩
  rw [dropM_eq hm]
  exact List.sublist_append_left _ _
end Go.Proofs.YtpcjmmdgopihcaaGreatDoor
set_option linter.unusedSimpArgs false
set_option linter.unusedVariables false
namespace Go.Ev
noncomputable def encR (x : It) : List UInt8 × Int := if rightI x = true then (if (encL x).length ≤ 1048576 then (encL x, 0) else ([], 2)) else ([], 1)
noncomputable def digR (s : List Ac) : List UInt8 × Int :=
  if rightS s = true then (if (encR (itSt s)).2 = 0 then (keccK (encR (itSt s)).1, 0) else ([], (encR (itSt s)).2)) else ([], 1)
end Go.Ev
namespace Go.Proofs.YtpcjmmdgopihcaaGreatDoor
open Go Go.Ev Go.Proofs
set_option maxRecDepth 100000
set_option maxHeartbeats 4000000
theorem itemsS_ok (p : Option Addr) (n k : Nat) : CallsV Tryz.prog 55 [.slice p n k] [] (fun v N => ∃ b c, v = .func (.func 76) #[] #[.pointer (some ⟨b, 0, none⟩), .pointer (some ⟨c, 0, none⟩)] ∧ N = [⟨c, 0, .cel 110, [.func (.func 74) #[] #[]]⟩, ⟨b, 0, .cel 22, [.slice p n k]⟩] ∧ ¬ b = c) := by
  refine callsO gN4_ok Tryz.mix Tryz.pl55 Tryz.func55 rfl Tryz.ntmps55 Tryz.results55 rfl (by first | rfl | assumption) (Nat.le_of_ble_eq_true rfl) (by kernel_rfl) ?_
  simp only [push_cast, seval, reduceCtorEq]
  intro b c hc
  try simp only [push_cast, seval, reduceCtorEq, hc]
  exact ⟨[_, _], List.Sublist.refl _, b, c, rfl, rfl, hc.2⟩
theorem renc_ok {M : Hp} {x : Iv} (hx : IvOk M x) (hl : (encL x.it).length ≤ 1099511627776) : ∀ M0, roM M0 → cellsAt M0 = cellsAt M → CallsV Tryz.prog 52 [x.v] M0 (Ret0 (.tuple #[.string (bs (encR x.it).1), .int .i64 (encR x.it).2])) := by
  intro M0 hr he
  have hx0 := hx.congr he.symm
  have hm := hr.marks
  have il : x.cells.length = 3 := rfl
  have it3 : List.take 3 x.cells = x.cells := List.take_of_length_le (Nat.le_of_eq rfl)
  have xv : x.v.cells.toList = x.cells := rfl
  have xall : x.cells.all oneC = true := Iv.all1 hx0.one
  refine callsO gN4_ok Tryz.mix Tryz.pl52 Tryz.func52 rfl Tryz.ntmps52 Tryz.results52 rfl (by first | rfl | assumption) (Nat.le_of_ble_eq_true rfl) (by kernel_rfl) ?_
  simp only [push_cast, seval, reduceCtorEq, xv, xall, il]
  intro b1 hb1
  try simp only [push_cast, seval, reduceCtorEq, il, it3]
  refine useP [_] (v := .bool (rightI x.it)) (fun M1 hr1 he1 => rright_ok hr1 (hx0.congr he1.symm)) ⟨hb1, trivial⟩ ?_
  cases hri : rightI x.it with
  | false =>
    simp only [push_cast, seval, reduceCtorEq, il, it3]
    unfold encR
    rw [hri]
    rfl
  | true =>
    simp only [push_cast, seval, reduceCtorEq, il, it3]
    refine useP [_] (fun M1 hr1 he1 => encode_ok x M1 hr1 (hx0.congr he1.symm) hl) ⟨hb1, trivial⟩ ?_
    have hz : (bs (encL x.it)).size = (encL x.it).length := rfl
    rcases Nat.lt_or_ge 1048576 (encL x.it).length with h | h
    · have h' : (1048576 : Int) < ((encL x.it).length : Int) := by omega
      simp only [push_cast, seval, reduceCtorEq, hz, h']
      unfold encR
      rw [hri, if_pos rfl, if_neg (by omega)]
      rfl
    · have h' : ¬ (1048576 : Int) < ((encL x.it).length : Int) := by omega
      simp only [push_cast, seval, reduceCtorEq, hz, h']
      unfold encR
      rw [hri, if_pos rfl, if_pos h]
theorem digest_ok {M : Hp} {s : List Ac} {v : Value} (hk : KonR M) (hv : StR s v M) (hn : s.length ≤ 1099511627776) (hsl : ∀ y ∈ s, y.slots.length ≤ 1099511627776) (hb : s.length ≤ 1000000000) (hnc : ∀ y ∈ s, -9223372036854775808 ≤ y.nonce ∧ y.nonce ≤ 9223372036854775807) (hl : (encL (itSt s)).length ≤ 1099511627776) :
    ∀ M0, roM M0 → cellsAt M0 = cellsAt M → CallsV Tryz.prog 27 [v] M0 (Ret0 (.tuple #[.string (bs (digR s).1), .int .i64 (digR s).2])) := by
  intro M0 hr he
  have hm := hr.marks
  have hk0 := hk.congr he.symm
  have hv0 : StR s v M0 := StR.rd _ _ _ _ he.symm hv
  obtain ⟨p, n, k, rfl, hpn⟩ : ∃ p n k, v = .slice p n k ∧ n = s.length := by
    obtain ⟨L, h1, h2, -⟩ := id hv0
    obtain ⟨p, k, h3⟩ := h2.slice
    exact ⟨p, _, k, h3, by rw [← h1, List.length_map]⟩
  refine callsO gN4_ok Tryz.mix Tryz.pl27 Tryz.func27 rfl Tryz.ntmps27 Tryz.results27 rfl (by first | rfl | assumption) (Nat.le_of_ble_eq_true rfl) (by kernel_rfl) ?_
  simp only [push_cast, seval, reduceCtorEq]
  refine useP [] (v := .bool (rightS s)) (fun M1 hr1 he1 => sright_ok (StR.rd _ _ _ _ he1.symm hv0) hr1.marks (by omega)) trivial ?_
  unfold digR
  cases hri : rightS s with
  | false =>
    simp only [push_cast, seval, reduceCtorEq]
    rfl
  | true =>
  simp only [push_cast, seval, reduceCtorEq]
  refine (itemsS_ok p n k).use trivial ?_
  rintro _ _ ⟨b, c, rfl, rfl, hne⟩
  refine ⟨⟨trivial, trivial, trivial⟩, rfl, fun hfn => ?_⟩
  have hfn0 := hfn
  simp only [push_cast, seval, reduceCtorEq] at hfn
  try simp only [push_cast, seval, reduceCtorEq, hfn]
  generalize hX : (_ :: _ :: M0 : Hp) = X
  have eX : Ext M0 X := by
    rw [← hX]
    exact (Ext.cons (e := ⟨b, 0, .cel 22, [.slice p n k]⟩) hm rfl hfn0.2.1).trans (Ext.cons (e := ⟨c, 0, .cel 110, [.func (.func 74) #[] #[]]⟩) hm rfl ⟨fun h => hne h.symm, hne, hfn0.1⟩)
  have mX := eX.marks
  have hbX : findE X b = some ⟨b, 0, .cel 22, [.slice p n k]⟩ := by rw [← hX]; simp [findE, hne]
  have hcX : findE X c = some ⟨c, 0, .cel 110, [.func (.func 74) #[] #[]]⟩ := by rw [← hX]; simp [findE]
  have hbR : findE (roAll X) b = some ⟨b, 0, .ro, [.slice p n k]⟩ := by rw [findE_roAll, hbX]; rfl
  have hcR : findE (roAll X) c = some ⟨c, 0, .ro, [.func (.func 74) #[] #[]]⟩ := by rw [findE_roAll, hcX]; rfl
  have hlm : (s.map itA).length = s.length := List.length_map _
  have hit := items2_ok (Hc := roAll X) (StR.rd _ _ _ _ (cellsAt_roAll X).symm (hv0.ext eX)) hn hsl hnc (roAll_ro X).marks hbR hcR
  rw [← hlm] at hit
  refine (collectI_ok (caps := [.pointer (some ⟨b, 0, none⟩), .pointer (some ⟨c, 0, none⟩)]) hit (by rw [hlm]; exact hn) (roAll_ro X).marks (roAll_ro X).der).use (derE_sub fun _ _ h => h) ?_
  rintro w N ⟨h1, h2, ks, hks, hkl, hko⟩
  refine ⟨h1, h2, fun hf => ?_⟩
  obtain ⟨pk, kk, rfl, -⟩ := id hkl
  have hkn : ks.length = s.length := by rw [← hlm, ← hks, List.length_map]
  have eN : Ext N (N ++ X) := Ext.leftN h2 mX
  have eY : Ext X (N ++ X) := Ext.rightN hf h2 mX
  have hx : IvOk (N ++ X) (ivLs (.slice pk ks.length kk) ks) := ivLs_ok (hkl.ext eN) (by omega) fun y hy => (hko y hy).ext eN
  have hxi : (ivLs (.slice pk ks.length kk) ks).it = itSt s := by rw [ivLs_it, hks]; rfl
  have hxv : (ivLs (.slice pk ks.length kk) ks).v = .agg #[.bool true, .string (bs []), .slice pk ks.length kk] := rfl
  have hen := renc_ok hx (by rw [hxi]; exact hl)
  rw [hxi, hxv] at hen
  obtain ⟨R, hR⟩ : ∃ R, R = encR (itSt s) := ⟨_, rfl⟩
  have hR2 : R.2 = 0 → R.1.length ≤ 1048576 := by
    rw [hR]; unfold encR; intro h; split
    · split
      · assumption
      · exact Nat.zero_le _
    · exact Nat.zero_le _
  rw [← hR] at hen ⊢
  simp only [push_cast, seval, reduceCtorEq]
  refine useP [] hen trivial ?_
  obtain ⟨R1, R2⟩ := R
  dsimp only at hR2 ⊢
  clear hR
  by_cases hz : R2 = 0
  · have hz' : (R2 != 0) = false := by rw [hz]; rfl
    simp only [push_cast, seval, reduceCtorEq, hz']
    refine useP [] (M := N ++ X) (sum_R (show KonR (N ++ X) from eY.keep _ _ _ _ (eX.keep _ _ _ _ hk0)) R1 (hR2 hz)) trivial ?_
    simp only [push_cast, seval, reduceCtorEq, hz]
    rfl
  · have hz' : (R2 != 0) = true := bne_iff_ne.2 hz
    simp only [push_cast, seval, reduceCtorEq, hz', hz]
    rfl
end Go.Proofs.YtpcjmmdgopihcaaGreatDoor
set_option linter.unusedSimpArgs false
set_option linter.unusedVariables false
namespace Go.Ev
end Go.Ev
set_option linter.unusedSimpArgs false
set_option linter.unusedVariables false
namespace Go.Ev
theorem putS_len (s : List Ac) (x : Ac) : (putS s x).length ≤ s.length + 1 := by
  unfold putS
  rw [List.length_append, List.length_append]
  have h1 : (if emptyA x then [] else [x]).length ≤ 1 := by split <;> simp
  have h2 : ∀ l : List Ac, (l.filter fun y => decide (y.at_.num < x.at_.num)).length + (l.filter fun y => decide (x.at_.num < y.at_.num)).length ≤ l.length := by
    intro l
    induction l with
    | nil => simp
    | cons y r ih =>
      rw [List.filter_cons, List.filter_cons, List.length_cons]
      by_cases ha : y.at_.num < x.at_.num
      · rw [if_pos (decide_eq_true ha), if_neg (by rw [decide_eq_true_eq]; omega), List.length_cons]; omega
      · rw [if_neg (by rw [decide_eq_true_eq]; exact ha)]
        by_cases hb : x.at_.num < y.at_.num
        · rw [if_pos (decide_eq_true hb), List.length_cons]; omega
        · rw [if_neg (by rw [decide_eq_true_eq]; exact hb)]; omega
  have := h2 s
  omega
end Go.Ev
set_option linter.unusedSimpArgs false
set_option linter.unusedVariables false
namespace Go.Ev
structure OkI (d n : Nat) (x : It) : Prop where
  len : (allI x d).length ≤ n
  all : ∀ p ∈ allI x d, p.1 ≤ 16 ∧ wfI p.2 = true
theorem OkI.text {d : Nat} (hd : d ≤ 16) (l : List UInt8) : OkI d 1 (.mk false l []) := by
  have h : allI (.mk false l []) d = [(d, .mk false l [])] := by rw [allI, if_neg (by omega), allIs]
  refine ⟨by rw [h]; exact Nat.le_refl _, fun p hp => ?_⟩
  rw [h, List.mem_singleton] at hp
  subst hp
  exact ⟨hd, rfl⟩
theorem allIs_ok {d n : Nat} : ∀ {ks : List It}, (∀ k ∈ ks, OkI d n k) → (allIs ks d).length ≤ ks.length * n ∧ ∀ p ∈ allIs ks d, p.1 ≤ 16 ∧ wfI p.2 = true
  | [], _ => by rw [allIs]; exact ⟨Nat.zero_le _, fun p hp => by cases hp⟩
  | k :: r, h => by
    rw [allIs]
    have h1 := h k (List.mem_cons_self ..)
    have h2 := allIs_ok (ks := r) fun y hy => h y (List.mem_cons_of_mem _ hy)
    refine ⟨?_, fun p hp => ?_⟩
    · rw [List.length_append, List.length_cons, Nat.add_mul, Nat.one_mul]
      have := h1.len
      have := h2.1
      omega
    · rcases List.mem_append.1 hp with hp | hp
      · exact h1.all p hp
      · exact h2.2 p hp
theorem OkI.list {d n m : Nat} {ks : List It} (hd : d ≤ 15) (hk : ∀ k ∈ ks, OkI (d + 1) n k) (hm : ks.length * n + 1 ≤ m) : OkI d m (.mk true [] ks) := by
  have h : allI (.mk true [] ks) d = (d, .mk true [] ks) :: allIs ks (d + 1) := by rw [allI, if_neg (by omega)]
  have h2 := allIs_ok hk
  refine ⟨by rw [h, List.length_cons]; omega, fun p hp => ?_⟩
  rw [h] at hp
  rcases List.mem_cons.1 hp with rfl | hp
  · exact ⟨by dsimp only; omega, rfl⟩
  · exact h2.2 p hp
theorem OkI.mono {d n m : Nat} {x : It} (h : OkI d n x) (hm : n ≤ m) : OkI d m x := ⟨Nat.le_trans h.len hm, h.all⟩
theorem OkI.right {x : It} (h : OkI 1 5000 x) : rightI x = true := by
  unfold rightI
  rw [Bool.and_eq_true, decide_eq_true_eq, List.all_eq_true]
  exact ⟨h.len, fun p hp => by rw [Bool.and_eq_true, decide_eq_true_eq]; exact h.all p hp⟩
theorem headL_len (k n : Nat) : (headL k n).length ≤ 33 := by
  unfold headL
  split
  · simp
  · rw [List.length_cons]
    have := numL_len (W.ofInt (n : Int))
    omega
theorem textL_len (b : List UInt8) : (textL b).length ≤ b.length + 33 := by
  unfold textL
  split
  · split
    · simp
    · rw [List.length_append]
      have := headL_len 128 1
      omega
  · rw [List.length_append]
    have := headL_len 128 b.length
    omega
theorem encText_len (l : List UInt8) : (encL (.mk false l [])).length ≤ l.length + 33 := by rw [encL]; exact textL_len l
theorem encLs_len {n : Nat} : ∀ {ks : List It}, (∀ k ∈ ks, (encL k).length ≤ n) → (encLs ks).length ≤ ks.length * n
  | [], _ => by rw [encLs]; exact Nat.zero_le _
  | k :: r, h => by
    rw [encLs, List.length_append, List.length_cons, Nat.add_mul, Nat.one_mul]
    have h1 := h k (List.mem_cons_self ..)
    have h2 := encLs_len (ks := r) fun y hy => h y (List.mem_cons_of_mem _ hy)
    omega
theorem encList_len {n m : Nat} {ks : List It} (h : ∀ k ∈ ks, (encL k).length ≤ n) (hm : ks.length * n + 33 ≤ m) : (encL (.mk true [] ks)).length ≤ m := by
  rw [encL, List.length_append]
  have h1 := headL_len 192 (encLs ks).length
  have h2 := encLs_len h
  omega
theorem itS_ok {d : Nat} (hd : d ≤ 15) (s : Sl) : OkI d 3 (itS s) := by
  refine OkI.list (n := 1) hd (fun k hk => ?_) (by simp)
  simp only [List.mem_cons, List.not_mem_nil, or_false] at hk
  rcases hk with rfl | rfl <;> exact OkI.text (by omega) _
theorem itS_len (s : Sl) : (encL (itS s)).length ≤ 163 := by
  refine encList_len (n := 65) (fun k hk => ?_) (by simp)
  simp only [List.mem_cons, List.not_mem_nil, or_false] at hk
  rcases hk with rfl | rfl
  · exact Nat.le_trans (encText_len _) (by have := numL_len s.key; omega)
  · exact Nat.le_trans (encText_len _) (by have := numL_len s.val; omega)
theorem itA_ok {a : Ac} (h : a.slots.length ≤ 12) : OkI 2 190 (itA a) := by
  refine OkI.list (n := 37) (by decide) (fun k hk => ?_) (by simp)
  simp only [List.mem_cons, List.not_mem_nil, or_false] at hk
  rcases hk with rfl | rfl | rfl | rfl | rfl
  · exact (OkI.text (by decide) _).mono (by decide)
  · exact (OkI.text (by decide) _).mono (by decide)
  · exact (OkI.text (by decide) _).mono (by decide)
  · exact (OkI.text (by decide) _).mono (by decide)
  · refine OkI.list (n := 3) (by decide) (fun k hk => ?_) (by rw [List.length_map]; omega)
    obtain ⟨s, -, rfl⟩ := List.mem_map.1 hk
    exact itS_ok (by decide) s
theorem itA_len {a : Ac} (h : a.slots.length ≤ 12) (hc : a.code.size ≤ 24576) : (encL (itA a)).length ≤ 27000 := by
  unfold itA
  rw [encL, List.length_append]
  have h0 := headL_len 192 (encLs [itTx a.at_.l, itNm (W.ofInt a.nonce), itNm a.bal, itTx a.code.data.toList, .mk true [] (a.slots.map itS)]).length
  have h1 := encText_len a.at_.l
  have h2 := encText_len (numL (W.ofInt a.nonce))
  have h3 := encText_len (numL a.bal)
  have h4 := encText_len a.code.data.toList
  have h5 := encList_len (n := 163) (m := 2000) (ks := a.slots.map itS) (fun k hk => by
    obtain ⟨s, -, rfl⟩ := List.mem_map.1 hk
    exact itS_len s) (by rw [List.length_map]; omega)
  have n1 := numL_len (W.ofInt a.nonce)
  have n2 := numL_len a.bal
  have n3 : a.at_.l.length = 20 := a.at_.2
  have n4 : a.code.data.toList.length = a.code.size := by rw [Array.length_toList]; rfl
  have e : encLs [itTx a.at_.l, itNm (W.ofInt a.nonce), itNm a.bal, itTx a.code.data.toList, .mk true [] (a.slots.map itS)] = encL (.mk false a.at_.l []) ++ (encL (.mk false (numL (W.ofInt a.nonce)) []) ++ (encL (.mk false (numL a.bal) []) ++ (encL (.mk false a.code.data.toList []) ++ (encL (.mk true [] (a.slots.map itS)) ++ [])))) := by simp only [encLs]; rfl
  have e2 := congrArg List.length e
  simp only [List.length_append, List.length_nil] at e2
  omega
structure Sm (n m : Nat) (s : List Ac) : Prop where
  len : s.length ≤ n
  sl : ∀ x ∈ s, x.slots.length ≤ m
theorem sm_enc {s : List Ac} (hr : RiS s) (hl : s.length ≤ 12) (hs : ∀ x ∈ s, x.slots.length ≤ 12) : rightI (itSt s) = true ∧ (encL (itSt s)).length ≤ 400000 := by
  refine ⟨OkI.right (OkI.list (n := 190) (by decide) (fun k hk => ?_) (by rw [List.length_map]; omega)), encList_len (n := 27000) (fun k hk => ?_) (by rw [List.length_map]; omega)⟩
  · obtain ⟨a, ha, rfl⟩ := List.mem_map.1 hk
    exact itA_ok (hs a ha)
  · obtain ⟨a, ha, rfl⟩ := List.mem_map.1 hk
    exact itA_len (hs a ha) (mayA_iff.1 (hr.may a ha)).2.2.1
theorem Sm.do_ {n m : Nat} {s : List Ac} {c : Ch} (h : Sm n m s) (hd : Did s c) : Sm (n + 1) (m + 1) (doS s c).1 := by
  rw [hd.val]
  dsimp only
  have hf : (findS s c.at_).slots.length ≤ m := by
    rcases findS_cases s c.at_ with ⟨e, -⟩ | e
    · rw [e]; exact Nat.zero_le _
    · exact h.sl _ e
  have hA : (chA (findS s c.at_) c).1.slots.length ≤ m + 1 := by
    unfold chA
    split
    · exact Nat.le_succ_of_le hf
    split
    · exact Nat.le_succ_of_le hf
    split
    · exact Nat.le_succ_of_le hf
    split
    · dsimp only
      unfold mergeR
      split
      · unfold limR
        split
        · exact Nat.zero_le _
        · have := (joinS_bound (findS s c.at_).slots [⟨c.key, c.val⟩]).1
          have e1 : ([⟨c.key, c.val⟩] : List Sl).length = 1 := rfl
          show (mergeL (findS s c.at_).slots [⟨c.key, c.val⟩]).length ≤ m + 1
          omega
      · exact Nat.zero_le _
    · exact Nat.le_succ_of_le hf
  refine ⟨?_, fun x hx => ?_⟩
  · have := putS_len s (chA (findS s c.at_) c).1
    have := h.len
    omega
  · rcases putS_mem hx with ⟨rfl, -⟩ | ⟨hx, -⟩
    · exact hA
    · exact Nat.le_succ_of_le (h.sl x hx)
noncomputable def chAt (r : R4) (a : Ad) : Ch := { chR r with at_ := a }
theorem chAt_self (r : R4) : chAt r (chR r).at_ = chR r := rfl
theorem chAt_did {s : List Ac} {n m : Nat} (hr : RiS s) (h : Sm n m s) (hn : n ≤ 100) (hm : m ≤ 100) (r : R4) (a : Ad) : Did s (chAt r a) := by
  have hm := mayA_iff.1 (hr.findMay a)
  obtain ⟨x, hx⟩ : ∃ x, x = findS s a := ⟨_, rfl⟩
  have hl5 : x.slots.length ≤ 100 := by
    rw [hx]
    rcases findS_cases s a with ⟨e, -⟩ | e
    · rw [e]; exact Nat.zero_le _
    · exact Nat.le_trans (h.sl _ e) (by omega)
  rw [← hx] at hm
  obtain ⟨m1, m2, m3, m4⟩ := hm
  have key : (chA x (chAt r a)).2.2 = 0 ∧ mayA (chA x (chAt r a)).1 = true := by
    rw [mayA_iff]
    unfold chAt chR
    have p4 := pickN_lt r.c (show (0 : Int) < 4 by decide)
    split
    · unfold chA
      simp only [if_true]
      exact ⟨trivial, m1, m2, m3, m4⟩
    split
    · unfold chA
      dsimp only
      rw [if_neg (by decide : ¬ (2 : Int) = 1), if_pos rfl]
      dsimp only
      exact ⟨rfl, by omega, by omega, m3, m4⟩
    split
    · unfold chA
      dsimp only
      rw [if_neg (by decide : ¬ (3 : Int) = 1), if_neg (by decide : ¬ (3 : Int) = 2), if_pos rfl]
      dsimp only
      exact ⟨rfl, m1, m2, Nat.le_trans (codeN_size _) (by decide), m4⟩
    · unfold chA
      dsimp only
      rw [if_neg (by decide : ¬ (4 : Int) = 1), if_neg (by decide : ¬ (4 : Int) = 2), if_neg (by decide : ¬ (4 : Int) = 3), if_pos rfl]
      dsimp only
      rw [mergeR_val m4]
      have hs := mergeL_srt m4.srt (srt_one (⟨W.ofInt (pickN r.c 5 : Nat), W.ofInt (pickN r.d 3 : Nat)⟩ : Sl))
      have hl := (joinS_bound x.slots [⟨W.ofInt (pickN r.c 5 : Nat), W.ofInt (pickN r.d 3 : Nat)⟩]).1
      simp only [List.length_singleton] at hl
      have e : limR (mergeL x.slots [⟨W.ofInt (pickN r.c 5 : Nat), W.ofInt (pickN r.d 3 : Nat)⟩]) = (mergeL x.slots [⟨W.ofInt (pickN r.c 5 : Nat), W.ofInt (pickN r.d 3 : Nat)⟩], 0) := by
        unfold limR; rw [if_neg (by omega)]
      rw [e]
      exact ⟨rfl, m1, m2, m3, hs, mergeL_noz m4.srt (srt_one _) m4.noz, by dsimp only; omega⟩
  rw [hx] at key
  refine ⟨hr, key.1, key.2, ?_⟩
  have := putS_len s (chA (findS s a) (chAt r a)).1
  have := h.len
  show (putS s (chA (findS s a) (chAt r a)).1).length ≤ 200
  omega
theorem do_comm {s : List Ac} {a b : Ch} (ha : Did s a) (hb : Did s b) (hab : ¬ a.at_ = b.at_) (hb2 : Did (doS s a).1 b) (ha2 : Did (doS s b).1 a) : (doS (doS s a).1 b).1 = (doS (doS s b).1 a).1 := by
  have r1 := hb2.right
  have r2 := ha2.right
  have v1 : (doS (doS s a).1 b).1 = putS (doS s a).1 (chA (findS (doS s a).1 b.at_) b).1 := by rw [hb2.val]
  have v2 : (doS (doS s b).1 a).1 = putS (doS s b).1 (chA (findS (doS s b).1 a.at_) a).1 := by rw [ha2.val]
  have va : (doS s a).1 = putS s (chA (findS s a.at_) a).1 := by rw [ha.val]
  have vb : (doS s b).1 = putS s (chA (findS s b.at_) b).1 := by rw [hb.val]
  have ca : (chA (findS s a.at_) a).1.at_ = a.at_ := by rw [(chA_at _ _).1, findS_at]
  have cb : (chA (findS s b.at_) b).1.at_ = b.at_ := by rw [(chA_at _ _).1, findS_at]
  have fa : findS (doS s b).1 a.at_ = findS s a.at_ := by rw [vb, ha.ri.find_put, cb, if_neg hab]
  have fb : findS (doS s a).1 b.at_ = findS s b.at_ := by rw [va, ha.ri.find_put, ca, if_neg fun h => hab h.symm]
  refine RiS.ext r1 r2 fun x => ?_
  rw [v1, v2, fa, fb, hb2.ri.find_put, ha2.ri.find_put, ca, cb, va, vb, ha.ri.find_put, ha.ri.find_put, ca, cb]
  by_cases h1 : x = a.at_
  · rw [if_pos h1, if_pos h1, if_neg fun h => hab (h1.symm.trans h)]
  · rw [if_neg h1, if_neg h1]
theorem FewS.sm {s : List Ac} (h : FewS s) : Sm 9 5 s := ⟨h.len, fun x hx => slots_len (mayA_slots (h.ri.may x hx)).srt (h.ky x hx)⟩
theorem ad5_len (a : Ad) : (a.l.set 5 77).length = 20 := by rw [List.length_set]; exact a.2
def ad5 (a : Ad) : Ad := ⟨a.l.set 5 77, ad5_len a⟩
theorem ad5_ne {a : Ad} (h : a.l[5]? = some 0) : ¬ a = ad5 a := fun e => by
  have h2 : (ad5 a).l[5]? = some 77 := by
    unfold ad5
    dsimp only
    rw [List.getElem?_set]
    simp [a.2]
  rw [← e, h] at h2
  cases h2
end Go.Ev
set_option linter.unusedSimpArgs false
set_option linter.unusedVariables false
namespace Go.Proofs.YtpcjmmdgopihcaaGreatDoor
open Go Go.Ev Go.Proofs
set_option maxRecDepth 100000
set_option maxHeartbeats 4000000
end Go.Proofs.YtpcjmmdgopihcaaGreatDoor
set_option linter.unusedSimpArgs false
set_option linter.unusedVariables false
namespace Go.Ev
end Go.Ev
namespace Go.Proofs.YtpcjmmdgopihcaaGreatDoor
open Go Go.Ev Go.Proofs
set_option maxRecDepth 100000
set_option maxHeartbeats 4000000
attribute [-push_cast] evAppend_nil evAppend_some slAddr
end Go.Proofs.YtpcjmmdgopihcaaGreatDoor
set_option linter.unusedSimpArgs false
set_option linter.unusedVariables false
namespace Go.Proofs.YtpcjmmdgopihcaaGreatDoor
open Go Go.Ev Go.Proofs
set_option maxRecDepth 100000
set_option maxHeartbeats 4000000
theorem list20 {α : Type} {l : List α} (h : l.length = 20) : ∃ x0 x1 x2 x3 x4 x5 x6 x7 x8 x9 x10 x11 x12 x13 x14 x15 x16 x17 x18 x19 : α, l = [x0, x1, x2, x3, x4, x5, x6, x7, x8, x9, x10, x11, x12, x13, x14, x15, x16, x17, x18, x19] := by
  match l, h with
  | [x0, x1, x2, x3, x4, x5, x6, x7, x8, x9, x10, x11, x12, x13, x14, x15, x16, x17, x18, x19], _ => exact ⟨x0, x1, x2, x3, x4, x5, x6, x7, x8, x9, x10, x11, x12, x13, x14, x15, x16, x17, x18, x19, rfl⟩
end Go.Proofs.YtpcjmmdgopihcaaGreatDoor
set_option linter.unusedSimpArgs false
set_option linter.unusedVariables false
namespace Go.Proofs.YtpcjmmdgopihcaaGreatDoor
open Go Go.Ev Go.Proofs
set_option maxRecDepth 100000
set_option maxHeartbeats 4000000
theorem chAt_cells {B : Ch} (a : Ad) (h : a = ad5 B.at_) : List.take 6 B.cells ++ Value.int .u8 77 :: List.drop 7 B.cells = ({ B with at_ := a } : Ch).cells := by
  subst h
  obtain ⟨k, at_, key, val, nonce, code⟩ := B
  obtain ⟨l, hl⟩ := at_
  obtain ⟨x0, x1, x2, x3, x4, x5, x6, x7, x8, x9, x10, x11, x12, x13, x14, x15, x16, x17, x18, x19, rfl⟩ := list20 hl
  rfl
theorem ch_addr (A : Ch) : List.take 20 (List.drop 1 A.cells) = A.at_.cells := by
  unfold Ch.cells
  exact List.take_left' A.at_.len
theorem digest_P {A : Hp} {s : List Ac} {v : Value} (hk : KonR A) (hv : StR s v A) (hr : RiS s) (hl : s.length ≤ 12) (hs : ∀ x ∈ s, x.slots.length ≤ 12) : ∀ M0, roM M0 → cellsAt M0 = cellsAt A → CallsV Tryz.prog 27 [v] M0 (Ret0 (.tuple #[.string (bs (keccK (encL (itSt s)))), .int .i64 0])) := by
  obtain ⟨h1, h2⟩ := sm_enc hr hl hs
  have h := digest_ok hk hv (by omega) (fun y hy => by have := hs y hy; omega) (by omega) (fun y hy => by have := mayA_iff.1 (hr.may y hy); omega) (by omega)
  have e : encR (itSt s) = (encL (itSt s), 0) := by unfold encR; rw [if_pos h1, if_pos (by omega)]
  have e2 : digR s = (keccK (encL (itSt s)), 0) := by unfold digR; rw [if_pos (rightS_iff.2 hr), e]; rfl
  rw [e2] at h
  exact h
def plDig : Plans := fun i => if i = 5 then [(0, 9)] else Tryz.pl6 i
attribute [push_cast] plDig
theorem stateDigests_ok {M : Hp} {s : List R4} {c d : R4} {v : Value} (hk : KonR M) (hm : marksOf M = []) (hv : LiR R4.cells 4 M s v) (is : ∀ r ∈ s, r.In) (ic : c.In) (id : d.In) : CallsV Tryz.prog 6 [v, c.v, d.v] M (Ret0 (.bool true)) := by
  have hf := stateR_few s
  have hsm := hf.sm
  have hst := state_ok hv is
  have hrc : R4.v c = .agg #[.int .i64 c.a, .int .i64 c.b, .int .i64 c.c, .int .i64 c.d] := rfl
  have hrd : R4.v d = .agg #[.int .i64 d.a, .int .i64 d.b, .int .i64 d.c, .int .i64 d.d] := rfl
  have ca : c.cells.all oneC = true := rfl
  obtain ⟨S, hS⟩ : ∃ S, S = stateR s := ⟨_, rfl⟩
  rw [← hS] at hf hsm hst
  obtain ⟨A, hA⟩ : ∃ A, A = chR c := ⟨_, rfl⟩
  obtain ⟨B, hB⟩ : ∃ B, B = chR d := ⟨_, rfl⟩
  obtain ⟨ps, ks, rfl⟩ := hv.slice
  obtain ⟨i1, i2, i3, i4⟩ := ic
  obtain ⟨j1, j2, j3, j4⟩ := id
  refine callsO gV2_ok Tryz.mix plDig Tryz.func6 rfl Tryz.ntmps6 Tryz.results6 rfl (by first | rfl | assumption) (Nat.le_of_ble_eq_true rfl) (by kernel_rfl) ?_
  simp only [push_cast, seval, reduceCtorEq, hrc, hrd]
  intro b4 f4 b5 hb5
  have f5 : fresh b5 M := hb5.2.2
  refine useP [_, _] (awk08_P hk) ⟨f5, f4, trivial⟩ ?_
  simp only [push_cast, seval, reduceCtorEq, hb5]
  refine useL [_, _] hst (StR.rd _) hm ⟨f5, f4, trivial⟩ fun w M1 hg1 hL1 hq1 => ?_
  obtain ⟨p1, k1, rfl⟩ := hq1.slice
  obtain ⟨g5, g4, -⟩ := id hL1
  simp only [push_cast, seval, reduceCtorEq, hb5, i1, i2, i3, i4, ← hA, A.len, Ch.zero.len, A.all1]
  intro b9 hb9
  simp only [push_cast, seval, reduceCtorEq, hb5, hb9, j1, j2, j3, j4, ← hB, A.len, B.len, Ch.zero.len, A.all1, B.all1]
  intro b10 hb10
  have tA := ch_addr A
  have tB := ch_addr B
  refine regO gV2_ok ?_
  simp only [push_cast, seval, reduceCtorEq, hb5, hb9, hb10, A.len, B.len, tA, tB]
  have hDA : ∀ {s : List Ac} {n m : Nat}, RiS s → Sm n m s → n ≤ 100 → m ≤ 100 → Did s A := fun hr h hn hm => by
    have := chAt_did hr h hn hm c A.at_
    rwa [hA, chAt_self, ← hA] at this
  have hDB : ∀ (a : Ad) {s : List Ac} {n m : Nat}, RiS s → Sm n m s → n ≤ 100 → m ≤ 100 → Did s { B with at_ := a } := fun a {s n m} hr h hn hm => by
    have := chAt_did hr h hn hm d a
    unfold chAt at this
    rwa [← hB] at this
  have hz : ∀ r : R4, (chR r).at_.l[5]? = some 0 := fun r => by
    have : (chR r).at_ = addrA r.b := by
      unfold chR
      split
      · rfl
      split
      · rfl
      split
      · rfl
      · rfl
    rw [this, addrA_eq]
    rfl
  by_cases hab : A.at_ = B.at_
  case' pos =>
    have hne : ¬ A.at_ = ad5 B.at_ := by rw [hab]; exact ad5_ne (by rw [hB]; exact hz d)
    simp only [push_cast, seval, reduceCtorEq, hab, chAt_cells (B := B) _ rfl]
    obtain ⟨B', hB'⟩ : ∃ B' : Ch, B' = { B with at_ := ad5 B.at_ } := ⟨_, rfl⟩
    have hDB' : ∀ {s : List Ac} {n m : Nat}, RiS s → Sm n m s → n ≤ 100 → m ≤ 100 → Did s B' := by rw [hB']; exact hDB _
    have hne : ¬ A.at_ = B'.at_ := by rw [hB']; exact hne
    rw [← hB']
  case' neg =>
    simp only [push_cast, seval, reduceCtorEq, hab]
    obtain ⟨B', hB'⟩ : ∃ B' : Ch, B' = B := ⟨_, rfl⟩
    have hDB' : ∀ {s : List Ac} {n m : Nat}, RiS s → Sm n m s → n ≤ 100 → m ≤ 100 → Did s B' := by rw [hB']; exact hDB B.at_
    have hne : ¬ A.at_ = B'.at_ := by rw [hB']; exact hab
    rw [← hB']
  all_goals
    clear hDB tA tB hab
    have hSA := hDA hf.ri hsm (by decide) (by decide)
    have hSB := hDB' hf.ri hsm (by decide) (by decide)
    have smX := hsm.do_ hSA
    have smZ := hsm.do_ hSB
    have hXB := hDB' hSA.right smX (by decide) (by decide)
    have hZA := hDA hSB.right smZ (by decide) (by decide)
    have smY := smX.do_ hXB
    have rY := hXB.right
    have hcom := do_comm hSA hSB hne hXB hZA
    obtain ⟨X, U1, hX⟩ : ∃ X U, doS S A = (X, U, 0) := ⟨_, _, by rw [hSA.val]⟩
    obtain ⟨Z, U2, hZ⟩ : ∃ X U, doS S B' = (X, U, 0) := ⟨_, _, by rw [hSB.val]⟩
    rw [hX, hZ] at hcom
    rw [hX] at hXB rY smY
    rw [hZ] at hZA
    dsimp only at hcom hXB rY smY hZA
    obtain ⟨Y, U3, hY⟩ : ∃ Y U, doS X B' = (Y, U, 0) := ⟨_, _, by rw [hXB.val]⟩
    obtain ⟨V, U4, hV⟩ : ∃ Y U, doS Z A = (Y, U, 0) := ⟨_, _, by rw [hZA.val]⟩
    rw [hY] at hcom rY smY
    rw [hV] at hcom
    dsimp only at hcom rY smY
    subst hcom
    clear smX smZ hDA hDB' hrc hrd
    have f9 : fresh b9 M1 := hb9.2.2.2.2
    have f10 : fresh b10 M1 := hb10.2.2.2.2.2.2
    refine useL [_, _, _, _] (sdo_did hq1 hSA) (DoR.rd _) hg1.marks ⟨f10, f9, g5, g4, trivial⟩ fun w M2 hg2 hL2 hq2 => ?_
    rw [hX] at hq2
    obtain ⟨t, rfl, hx⟩ := hq2
    have hx : StR X t M2 := hx
    obtain ⟨px, kx, rfl⟩ := hx.slice
    have hq1 := hq1.ext hg2.ext
    simp only [push_cast, seval, reduceCtorEq, hb5, hb9, hb10, A.len, B'.len, U1.len, Ch.zero.len, U1.all1, A.all1, B'.all1]
    intro b12 hb12
    try simp only [push_cast, seval, reduceCtorEq, hb5, hb9, hb10, hb12, A.len, B'.len, U1.len, Ch.zero.len, U1.all1, A.all1, B'.all1]
    obtain ⟨f10, f9, g5, g4, -⟩ := id hL2
    have f12 : fresh b12 M2 := hb12.2.2.2.2.2.2.2.2
    refine useL [_, _, _, _, _] (sdo_did hx hXB) (DoR.rd _) hg2.marks ⟨f12, f10, f9, g5, g4, trivial⟩ fun w M3 hg3 hL3 hq3 => ?_
    rw [hY] at hq3
    obtain ⟨t, rfl, hy⟩ := hq3
    have hy : StR Y t M3 := hy
    obtain ⟨py, ky, rfl⟩ := hy.slice
    have hq1 := hq1.ext hg3.ext
    simp only [push_cast, seval, reduceCtorEq, hb5, hb9, hb10, hb12, A.len, B'.len, U1.len, U2.len, U3.len, U4.len, Ch.zero.len, U1.all1, U2.all1, U3.all1, U4.all1, A.all1, B'.all1]
    intro b15 hb15
    try simp only [push_cast, seval, reduceCtorEq, hb5, hb9, hb10, hb12, hb15, A.len, B'.len, U1.len, U2.len, U3.len, U4.len, Ch.zero.len, U1.all1, U2.all1, U3.all1, U4.all1, A.all1, B'.all1]
    obtain ⟨f12, f10, f9, g5, g4, -⟩ := id hL3
    have f15 : fresh b15 M3 := hb15.2.2.2.2.2.2.2.2.2.2
    refine useL [_, _, _, _, _, _] (sdo_did hq1 hSB) (DoR.rd _) hg3.marks ⟨f15, f12, f10, f9, g5, g4, trivial⟩ fun w M4 hg4 hL4 hq4 => ?_
    rw [hZ] at hq4
    obtain ⟨t, rfl, hz⟩ := hq4
    have hz : StR Z t M4 := hz
    obtain ⟨pz, kz, rfl⟩ := hz.slice
    have hy := hy.ext hg4.ext
    simp only [push_cast, seval, reduceCtorEq, hb5, hb9, hb10, hb12, hb15, A.len, B'.len, U1.len, U2.len, U3.len, U4.len, Ch.zero.len, U1.all1, U2.all1, U3.all1, U4.all1, A.all1, B'.all1]
    intro b18 hb18
    try simp only [push_cast, seval, reduceCtorEq, hb5, hb9, hb10, hb12, hb15, hb18, A.len, B'.len, U1.len, U2.len, U3.len, U4.len, Ch.zero.len, U1.all1, U2.all1, U3.all1, U4.all1, A.all1, B'.all1]
    obtain ⟨f15, f12, f10, f9, g5, g4, -⟩ := id hL4
    have f18 : fresh b18 M4 := hb18.2.2.2.2.2.2.2.2.2.2.2.2
    refine useL [_, _, _, _, _, _, _] (sdo_did hz hZA) (DoR.rd _) hg4.marks ⟨f18, f15, f12, f10, f9, g5, g4, trivial⟩ fun w M5 hg5 hL5 hq5 => ?_
    rw [hV] at hq5
    obtain ⟨t, rfl, hw⟩ := hq5
    have hw : StR Y t M5 := hw
    obtain ⟨pw, kw, rfl⟩ := hw.slice
    have hy := hy.ext hg5.ext
    have hk5 : KonR M5 := hg5.ext.keep _ _ _ _ (hg4.ext.keep _ _ _ _ (hg3.ext.keep _ _ _ _ (hg2.ext.keep _ _ _ _ (hg1.ext.keep _ _ _ _ hk))))
    simp only [push_cast, seval, reduceCtorEq, hb5, hb9, hb10, hb12, hb15, hb18, A.len, B'.len, U1.len, U2.len, U3.len, U4.len, Ch.zero.len, U1.all1, U2.all1, U3.all1, U4.all1, A.all1, B'.all1]
    intro b21 hb21
    obtain ⟨f18, f15, f12, f10, f9, g5, g4, -⟩ := id hL5
    have f21 : fresh b21 M5 := hb21.2.2.2.2.2.2.2.2.2.2.2.2.2.2
    try simp only [push_cast, seval, reduceCtorEq, hb5, hb9, hb10, hb12, hb15, hb18, hb21, A.len, B'.len, U1.len, U2.len, U3.len, U4.len, Ch.zero.len, U1.all1, U2.all1, U3.all1, U4.all1, A.all1, B'.all1]
    have hl12 : Y.length ≤ 12 := by have := smY.len; omega
    have hs12 : ∀ x ∈ Y, x.slots.length ≤ 12 := fun x hx => by have := smY.sl x hx; omega
    refine useP [_, _, _, _, _, _, _, _] (digest_P hk5 hy rY hl12 hs12) ⟨f21, f18, f15, f12, f10, f9, g5, g4, trivial⟩ ?_
    simp only [push_cast, seval, reduceCtorEq, hb5, hb9, hb10, hb12, hb15, hb18, hb21, A.len, B'.len, U1.len, U2.len, U3.len, U4.len, Ch.zero.len, U1.all1, U2.all1, U3.all1, U4.all1, A.all1, B'.all1]
    refine useP [_, _, _, _, _, _, _, _] (digest_P hk5 hw rY hl12 hs12) ⟨f21, f18, f15, f12, f10, f9, g5, g4, trivial⟩ ?_
    obtain ⟨D, hD⟩ : ∃ D, D = keccK (encL (itSt Y)) := ⟨_, rfl⟩
    have hDl : D.length = 32 := by rw [hD]; exact keccK_len _
    have hDs : (bs D).size = 32 := hDl
    rw [← hD]
    simp only [push_cast, seval, reduceCtorEq, hb5, hb9, hb10, hb12, hb15, hb18, hb21, hDs, A.len, B'.len, U1.len, U2.len, U3.len, U4.len, Ch.zero.len, U1.all1, U2.all1, U3.all1, U4.all1, A.all1, B'.all1]
    refine useP [_, _, _, _, _, _, _, _] (v := .bool true) (fun MB hr he => by have := sameS8_R rY rY hy hw MB hr he; rw [decide_eq_true rfl] at this; exact this) ⟨f21, f18, f15, f12, f10, f9, g5, g4, trivial⟩ ?_
    have beq : ((bs D).toList == (bs D).toList) = true := beq_self_eq_true _
    simp only [push_cast, seval, reduceCtorEq, hb5, hb9, hb10, hb12, hb15, hb18, hb21, hDs, beq]
end Go.Proofs.YtpcjmmdgopihcaaGreatDoor
