/- Texts of this claim, merged by program: Of Og EvN Oh Nf. -/
import Derived.Test.YtolmipnaheifcaaDoorZeAi
import Derived.Test.YtolmipnaheifcaaDoorZeAf
import Derived.Test.YtolmipnaheifcaaDoorZeAh
set_option linter.unusedSimpArgs false
set_option linter.unusedVariables false
namespace Go.Ev
def rlistPG : List Value → Option Value
  | [.slice p n c] => some (.agg #[.bool true, .string (bs []), .slice p n c])
  | _ => none
attribute [push_cast] rlistPG
theorem append_hA {P : Program} {A X N : Hp} {st xt e sz by_ n m : Nat} {cs ys : List Value} {v x : Value} {K : Value → Hp → Prop} (ho : OutG e sz cs n v N) (hA : freshN A N) (hs : slI P st = some (e, sz, by_)) (hx : srcL P (A ++ (N ++ X)) xt x sz = some (ys, m)) (hl : ys.length = m * sz) (h1 : ys.all oneC = true) (hb : (n + m) * by_ ≤ two47)
    (hk : ∀ v' N', OutG e sz (cs ++ ys) (n + m) v' N' → freshN N' (A ++ X) → K v' (N' ++ (A ++ X))) : evAppend P (A ++ (N ++ X)) st xt v x K := by
  have hsz : 0 < sz := (slI_eq hs).2.elim fun _ h => h.elim fun _ h => h.2.2.2.2.2.1
  unfold evAppend
  rw [hs]
  dsimp only
  rw [hx]
  dsimp only
  rcases ho with ⟨rfl, rfl, rfl, rfl⟩ | ⟨b, c, rfl, hc, hcl, rfl⟩
  · refine ⟨⟨rfl, rfl⟩, fun hm => ?_, fun hm => ⟨by simpa using hb, fun b c' hf hc' => ?_⟩⟩
    · subst hm
      have : ys = [] := List.length_eq_zero_iff.1 (by simpa using hl)
      subst this
      exact hk _ [] (.inl ⟨rfl, rfl, rfl, rfl⟩) trivial
    · have := hk (.slice (some ⟨b, 0, none⟩) (0 + m) c') [⟨b, 0, .vec e sz c', [] ++ ys⟩] (.inr ⟨b, c', rfl, by omega, by simpa using hl, rfl⟩) ⟨hf, trivial⟩
      rw [Nat.zero_add] at this
      exact this
  · have hb' : ∀ a ∈ A, ¬ b = a.blk := fun a ha h => by
      have := freshN_iff.1 hA a ha _ (List.mem_singleton.2 rfl)
      exact this h
    have e1 : findE (A ++ ([⟨b, 0, .vec e sz c, cs⟩] ++ X)) b = some ⟨b, 0, .vec e sz c, cs⟩ := by rw [findE_A hb']; simp [findE]
    have e2 : remE (A ++ ([⟨b, 0, .vec e sz c, cs⟩] ++ X)) b = A ++ X := by rw [remE_A hb']; simp [remE]
    dsimp only
    rw [e1, e2]
    dsimp only
    rw [if_pos hcl]
    refine ⟨⟨rfl, rfl, rfl, rfl, hcl⟩, hb, h1, fun b' c' hf hc' => ?_⟩
    exact hk _ [⟨b', 0, .vec e sz c', cs ++ ys⟩] (.inr ⟨b', c', rfl, hc', by rw [List.length_append, hcl, hl, Nat.add_mul], rfl⟩) ⟨hf, trivial⟩
theorem push_hA {P : Program} {α : Type} {c : α → List Value} {e e' s' sz by_ st q : Nat} {ag : Bool} {l : List α} {x : α} {v : Value} (A : Hp) {N X : Hp} {b k : Nat} {K : Value → Hp → Prop} (ho : OutG e sz (l.flatMap c) l.length v N) (hA : freshN (⟨b, 0, .vec e' s' 1, c x⟩ :: A) N) (hs : slI P st = some (e, sz, by_)) (he : elemI P st = some (none, q, ag))
    (hl : (c x).length = sz) (h1 : (c x).all oneC = true) (hb : (l.length + 1) * by_ ≤ two47)
    (hk : ∀ v' N', OutG e sz ((l ++ [x]).flatMap c) (l ++ [x]).length v' N' → freshN N' (⟨b, 0, .vec e' s' 1, c x⟩ :: (A ++ X)) → K v' (N' ++ ⟨b, 0, .vec e' s' 1, c x⟩ :: (A ++ X))) : evAppend P (⟨b, 0, .vec e' s' 1, c x⟩ :: (A ++ (N ++ X))) st st v (.slice (some ⟨b, 0, none⟩) 1 k) K := by
  refine append_hA (A := ⟨b, 0, .vec e' s' 1, c x⟩ :: A) (e := e) (sz := sz) (by_ := by_) (n := l.length) (m := 1) (ys := c x) ho hA hs ?_ (by rw [hl, Nat.one_mul]) h1 hb fun v' N' ho' hf' => hk v' N' ?_ hf'
  · unfold srcL
    rw [he]
    dsimp only
    unfold cellsAt
    simp only [List.cons_append, findE, if_true, Nat.le_refl, Nat.sub_self, subL, Nat.zero_add, List.drop_zero, Nat.one_mul]
    rw [if_pos (Nat.le_of_eq hl.symm), List.take_of_length_le (Nat.le_of_eq hl)]
  · rw [List.flatMap_append, List.length_append, List.flatMap_cons, List.flatMap_nil, List.append_nil]
    exact ho'
theorem subH_skip6 {a : Ent} {X Y : Hp} (h : fresh a.blk Y) (hs : subH X Y) : subH (a :: X) Y := by
  induction Y generalizing X with
  | nil => exact trivial
  | cons e r ih =>
    refine ⟨by simp only [findE]; rw [if_neg h.2.1]; exact hs.1, ?_⟩
    simp only [remE]
    rw [if_neg h.2.1]
    exact ih h.2.2 hs.2
end Go.Ev
namespace Go.Proofs.YtolmipnaheifcaaDoor
open Go Go.Ev Go.Proofs
set_option maxRecDepth 100000
set_option maxHeartbeats 4000000
theorem rlistP_ok (p : Option Addr) (n c : Nat) : CallsV Tryd.prog 19 [.slice p n c] [] (Ret0 (.agg #[.bool true, .string (bs []), .slice p n c])) := by
  refine callsO gO1_ok Tryd.mix Tryd.pl19 Tryd.func19 rfl Tryd.ntmps19 Tryd.results19 rfl (by first | rfl | assumption) (Nat.le_of_ble_eq_true rfl) (by kernel_rfl) ?_
  simp only [push_cast, seval, reduceCtorEq]
  rfl
theorem rlistPG_ok (args : List Value) (v : Value) (h : rlistPG args = some v) : CallsV Tryd.prog 19 args [] (Ret0 v) := by
  unfold rlistPG at h
  split at h
  · cases h; exact rlistP_ok _ _ _
  · cases h
noncomputable def gO2 : Gam := (addG 19 rlistPG gO1)
attribute [push_cast] gO2
theorem gO2_ok : GamOk Tryd.prog gO2 := (addG_ok rlistPG_ok gO1_ok)
attribute [push_cast] gO2
theorem Ext.front {N M : Hp} (hm : marksOf M = []) (hn : marksOf N = []) (hf : freshN N M) : Ext M (N ++ M) := by
  refine ⟨by rw [marks_append, hm, hn]; rfl, fun b o n cs h => ?_⟩
  obtain ⟨e, he⟩ := cellsAt_findS h
  unfold cellsAt at h ⊢
  rw [find_behind hf b e he]
  rw [he] at h
  exact h
theorem cntI_pos : ∀ x : It, 0 < cntI x
  | .mk _ _ ks => by rw [cntI]; omega
def ItemK (bd : Nat) (s : List UInt8) (r : Rd It) : Value → Hp → Prop := fun v H' =>
  (∃ x p b a' m' c0 c1 c2 n c, r = .bad x p ∧ v = .tuple #[.agg #[.bool c0, .string c1, .slice c2 n c], faV b] ∧ H' = [faE b x p, decE bd s a' m']) ∨
  ∃ x a' m' y N, r = .ok x a' m' ∧ v = .tuple #[Iv.v y, .nilIface] ∧ y.it = x ∧ H' = decE bd s a' m' :: N ∧ (allWr N ∧ marksOf N = [] ∧ fresh bd N) ∧ IvOk N y
def plOL : Plans := fun i => if i = 4 then [(0, 9)] else Tryd.pl59 i
attribute [push_cast] plOL
theorem dlist_ok {bd : Nat} {s : List UInt8} {d e a m i : Nat} (hs : s.length ≤ 1099511627776) (he : e ≤ s.length) (hi : i ≤ 16) (hm : m ≤ 5000) (hae : a ≤ e)
    (hf : ∀ a m, a < e → m ≤ 5000 → CallsV Tryd.prog 38 [.pointer (some ⟨bd, 0, none⟩), .int .i64 (e : Int), .int .i64 ((i : Int) + 1)] [decE bd s a m] (ItemK bd s (itemD s d e a m))) :
    CallsV Tryd.prog 59 [.pointer (some ⟨bd, 0, none⟩), .int .i64 (e : Int), .int .i64 (i : Int)] [decE bd s a m] (ItemK bd s (packD (listD (fun a m => itemD s d e a m) e (s.length + 1) a m []))) := by
  obtain ⟨R, hR⟩ : ∃ R, R = listD (fun a m => itemD s d e a m) e (s.length + 1) a m [] := ⟨_, rfl⟩
  rw [← hR]
  have hDe : ∀ a m, decE bd s a m = ⟨bd, 0, .cel 60, [.string (bs s), .int .i64 (a : Int), .int .i64 (m : Int)]⟩ := fun _ _ => rfl
  rw [hDe]
  refine callsO gO2_ok Tryd.mix plOL Tryd.func59 rfl Tryd.ntmps59 Tryd.results59 rfl (by first | rfl | assumption) (Nat.le_of_ble_eq_true rfl) (by kernel_rfl) ?_
  simp only [push_cast, seval, reduceCtorEq]
  intro b6 hb6 b8 hb8
  refine loopO gO2_ok (pl := plOL) Tryd.mix (X := {x : ((Nat × (Nat × Nat)) × (List Iv × Value)) × (Hp × Hp) // freshN x.2.1 x.2.2 ∧ fresh b8 (x.2.1 ++ x.2.2) ∧ fresh b6 (x.2.1 ++ x.2.2) ∧ fresh bd (x.2.1 ++ x.2.2)})
    (fun x => ([(0, .pointer (some ⟨bd, 0, none⟩)), (1, .int .i64 (e : Int)), (2, .int .i64 (i : Int)), (6, .pointer (some ⟨b6, 0, none⟩)), (8, .pointer (some ⟨b8, 0, none⟩))],
      ⟨b8, 0, .cel 29, [.bool true, .string (bs []), x.1.1.2.2]⟩ :: ⟨b6, 0, .cel 29, [.bool false, .string ByteArray.empty, .slice none 0 0]⟩ :: decE bd s x.1.1.1.2.1 x.1.1.1.2.2 :: (x.1.2.1 ++ x.1.2.2)))
    (fun x => listD (fun a m => itemD s d e a m) e x.1.1.1.1 x.1.1.1.2.1 x.1.1.1.2.2 (x.1.1.2.1.map Iv.it) = R ∧ x.1.1.1.2.1 ≤ e ∧ x.1.1.1.2.2 ≤ 5000 ∧ e - x.1.1.1.2.1 < x.1.1.1.1 ∧ x.1.1.2.1.length ≤ x.1.1.1.2.2 ∧
      OutG 29 3 (x.1.1.2.1.flatMap Iv.cells) x.1.1.2.1.length x.1.1.2.2 x.1.2.1 ∧ (∀ y ∈ x.1.1.2.1, IvOk x.1.2.2 y) ∧ allWr x.1.2.2 ∧ marksOf x.1.2.2 = [])
    (fun x => x.1.1.1.1) ⟨(((s.length + 1, (a, m)), ([], .slice none 0 0)), ([], [])), ⟨trivial, trivial, trivial, trivial⟩⟩ ?_ ?_ (by kernel_rfl) ?_
  · exact ⟨hR.symm, hae, hm, by dsimp only; omega, Nat.zero_le _, .inl ⟨rfl, rfl, rfl, rfl⟩, fun y hy => absurd hy (by simp), trivial, rfl⟩
  · rw [hDe]
    simp only [push_cast, seval, reduceCtorEq]
  · rintro ⟨⟨⟨⟨k, ⟨a, m⟩⟩, ⟨ks, sv⟩⟩, ⟨N, M⟩⟩, hNM, q8, q6, qd⟩ ⟨hL, hae, hm, hk, hkm, ho, hok, hwM, hmM⟩
    dsimp only at hNM q8 q6 qd hL hae hm hk hkm ho hok hwM hmM ⊢
    obtain ⟨pk, ck, rfl⟩ := ho.slice
    rcases Nat.lt_or_ge a e with hlt | hge
    · have d1 : (a : Int) < (e : Int) := by omega
      rw [hDe]
      simp only [push_cast, seval, reduceCtorEq, d1, wrap_i64' (show -9223372036854775808 ≤ (i : Int) + 1 ∧ (i : Int) + 1 ≤ 9223372036854775807 by omega), hb6, hb8]
      refine CallsV.useM (m := decE bd s a m) (Hf := []) (hf a m hlt hm) (by rw [hDe]; simp only [push_cast, seval, reduceCtorEq, hb6, hb8]) rfl trivial ?_
      have hrem : remE (⟨b8, 0, .cel 29, [.bool true, .string (bs []), .slice pk ks.length ck]⟩ :: ⟨b6, 0, .cel 29, [.bool false, .string ByteArray.empty, .slice none 0 0]⟩ :: decE bd s a m :: (N ++ M)) (decE bd s a m).blk =
        ⟨b8, 0, .cel 29, [.bool true, .string (bs []), .slice pk ks.length ck]⟩ :: ⟨b6, 0, .cel 29, [.bool false, .string ByteArray.empty, .slice none 0 0]⟩ :: (N ++ M) := by rw [hDe]; simp only [push_cast, seval, reduceCtorEq, hb6, hb8]
      obtain ⟨k', rfl⟩ : ∃ k', k = k' + 1 := ⟨k - 1, by omega⟩
      rw [listD, if_pos hlt] at hL
      rw [← hDe, hrem]
      rintro v N1 (⟨x, p, b, a', m', c0, c1, c2, n, c, hr, rfl, rfl⟩ | ⟨x, a', m', y, Nk, hr, rfl, rfl, rfl, ⟨hwk, hmk, hdk⟩, hyk⟩)
      · refine ⟨⟨trivial, trivial, trivial⟩, rfl, fun hfr => ?_⟩
        rw [hr] at hL
        dsimp only at hL
        unfold faE decE at hfr ⊢
        unfold faV
        simp only [push_cast, seval, reduceCtorEq] at hfr
        simp only [push_cast, seval, reduceCtorEq, hfr, hb6, hb8]
        intro b9 hb9
        refine regO gO2_ok ?_
        simp only [push_cast, seval, reduceCtorEq, hfr, hb6, hb8, hb9]
        refine ⟨_, ?_, .inl ⟨x, p, b, a', m', _, _, _, _, _, by rw [← hL]; rfl, rfl, rfl⟩⟩
        exact ((List.nil_sublist _).cons_cons _).cons_cons _ |>.cons _
      · refine ⟨⟨trivial, hwk⟩, by rw [show decE bd s a' m' :: Nk = [decE bd s a' m'] ++ Nk from rfl, marks_append, hmk]; rfl, fun hfr => ?_⟩
        rw [hr] at hL
        dsimp only at hL
        obtain ⟨fd, fk⟩ := hfr
        obtain ⟨yl, yb, yv, yks⟩ := y
        obtain ⟨py, cy, hsy, -⟩ := id hyk.li
        replace hsy : yv = .slice py yks.length cy := hsy
        subst hsy
        have hyv : (Iv.mk yl yb (.slice py yks.length cy) yks).v = .agg #[.bool yl, .string (bs yb), .slice py yks.length cy] := rfl
        unfold decE at fd ⊢
        simp only [push_cast, seval, reduceCtorEq] at fd
        simp only [push_cast, seval, reduceCtorEq, fd, hyv, hb6, hb8]
        intro b9 hb9
        have h9k : fresh b9 Nk := by
          have := hb9.2.2
          exact (fresh_app_iff.1 this).1
        have h9r := (fresh_app_iff.1 hb9.2.2).2
        have hb9' : ¬ b9 = bd ∧ ¬ bd = b9 ∧ ¬ b9 = b8 ∧ ¬ b8 = b9 ∧ ¬ b9 = b6 ∧ ¬ b6 = b9 := ⟨hb9.1, hb9.2.1, h9r.1, h9r.2.1, h9r.2.2.1, h9r.2.2.2.1⟩
        have h9N : fresh b9 (N ++ M) := h9r.2.2.2.2
        obtain ⟨M2, hM2⟩ : ∃ M2, M2 = Nk ++ M := ⟨_, rfl⟩
        refine WpV.perm (H' := ⟨b9, 0, .cel 29, [.bool yl, .string (bs yb), .slice py yks.length cy]⟩ :: ⟨b8, 0, .cel 29, [.bool true, .string (bs []), .slice pk ks.length ck]⟩ :: ⟨b6, 0, .cel 29, [.bool false, .string ByteArray.empty, .slice none 0 0]⟩ :: ⟨bd, 0, .cel 60, [.string (bs s), .int .i64 (a' : Int), .int .i64 (m' : Int)]⟩ :: (N ++ M2)) ?_ ?_ ?_
        · rw [hM2]
          classical
          refine List.perm_iff_count.2 fun z => ?_
          simp only [List.count_append, List.count_cons]
          omega
        · rw [hM2]
          simp [marks_append, marksOf, hmk]
        refine regO gO2_ok ?_
        simp only [push_cast, seval, reduceCtorEq, hb9', hb6, hb8]
        intro b hb
        have hbN : fresh b (N ++ M2) := hb.2.2.2.2.2.2.2.2
        have hb' : ¬ b = b9 ∧ ¬ b9 = b ∧ ¬ b = b8 ∧ ¬ b8 = b ∧ ¬ b = b6 ∧ ¬ b6 = b ∧ ¬ b = bd ∧ ¬ bd = b := ⟨hb.1, hb.2.1, hb.2.2.1, hb.2.2.2.1, hb.2.2.2.2.1, hb.2.2.2.2.2.1, hb.2.2.2.2.2.2.1, hb.2.2.2.2.2.2.2.1⟩
        have zb : fresh b N := (fresh_app_iff.1 hbN).1
        have z9 : fresh b9 N := (fresh_app_iff.1 h9N).1
        have z8 : fresh b8 N := (fresh_app_iff.1 q8).1
        have z6 : fresh b6 N := (fresh_app_iff.1 q6).1
        have zd : fresh bd N := (fresh_app_iff.1 qd).1
        obtain ⟨g1, g2, g3, g4, g5, -⟩ := itemD_ok s d e he _ _ _ _ _ hr
        have hcp := cntI_pos (Iv.mk yl yb (.slice py yks.length cy) yks).it
        have hkb : (ks.length + 1) * 48 ≤ two47 := by unfold two47; omega
        refine push_hA (P := Tryd.prog) (c := Iv.cells) (x := Iv.mk yl yb (.slice py yks.length cy) yks) [_, _, _, _] (by_ := 48) (q := 3) (ag := true) ho ⟨zb, z9, z8, z6, zd, trivial⟩ (by simp only [push_cast, seval, reduceCtorEq]) (by simp only [push_cast, seval, reduceCtorEq]) rfl rfl hkb fun v3 N3 ho4 hf4 => ?_
        obtain ⟨Y, hY⟩ : ∃ Y, Y = Iv.mk yl yb (.slice py yks.length cy) yks := ⟨_, rfl⟩
        rw [← hY] at ho4
        obtain ⟨p3, k3, hv3⟩ := ho4.slice
        subst hv3
        rcases ho4 with ⟨r1, -⟩ | ⟨bu, cu, r3, r4, r5, hN3⟩
        · rw [List.length_append] at r1; simp at r1
        obtain ⟨hq3, -⟩ := (show freshN [⟨bu, 0, .vec 29 3 cu, (ks ++ [Y]).flatMap Iv.cells⟩] _ from hN3 ▸ hf4)
        rw [hN3]
        have hbu := hq3
        simp only [push_cast, seval, reduceCtorEq] at hbu
        obtain ⟨u, u', u9, u9', u8, u8', u6, u6', ud, ud', uM⟩ := hbu
        have hbu' : ¬ bu = b ∧ ¬ b = bu ∧ ¬ bu = b9 ∧ ¬ b9 = bu ∧ ¬ bu = b8 ∧ ¬ b8 = bu ∧ ¬ bu = b6 ∧ ¬ b6 = bu ∧ ¬ bu = bd ∧ ¬ bd = bu := ⟨u, u', u9, u9', u8, u8', u6, u6', ud, ud'⟩
        simp only [push_cast, seval, reduceCtorEq, hb9', hb6, hb8, hb', hbu']
        obtain ⟨fk86, fkNM⟩ := freshN_mono (A := [⟨b8, 0, .cel 29, [.bool true, .string (bs []), .slice pk ks.length ck]⟩, ⟨b6, 0, .cel 29, [.bool false, .string ByteArray.empty, .slice none 0 0]⟩]) (B := N ++ M) fk
        obtain ⟨k8, k6, -⟩ := freshN_sym fk86
        have fkM := (freshN_mono fkNM).2
        have v8 : fresh b8 M2 := by rw [hM2]; exact fresh_appS k8 (fresh_app_iff.1 q8).2
        have v6 : fresh b6 M2 := by rw [hM2]; exact fresh_appS k6 (fresh_app_iff.1 q6).2
        have vd : fresh bd M2 := by rw [hM2]; exact fresh_appS hdk (fresh_app_iff.1 qd).2
        have vb : fresh b M2 := (fresh_app_iff.1 hbN).2
        have v9 : fresh b9 M2 := by rw [hM2]; exact fresh_appS h9k (fresh_app_iff.1 h9N).2
        have hl2 : (ks ++ [Y]).length = ks.length + 1 := by simp
        have hYk : IvOk Nk Y := by rw [hY]; exact hyk
        have w2 : allWr M2 := by rw [hM2]; exact allWr_app hwk hwM
        have mk2 : marksOf M2 = [] := by rw [hM2, marks_append, hmk, hmM]; rfl
        have hxM : Ext M M2 := by rw [hM2]; exact Ext.front hmM hmk fkM
        have hxN : Ext Nk M2 := by rw [hM2]; exact Ext.app hmk hmM
        refine ⟨⟨(((k', (a', m')), (ks ++ [Y], .slice p3 (ks ++ [Y]).length k3)), ([⟨bu, 0, .vec 29 3 cu, (ks ++ [Y]).flatMap Iv.cells⟩], M2)), ⟨uM, trivial⟩, ⟨u8', u8, v8⟩, ⟨u6', u6, v6⟩, ⟨ud', ud, vd⟩⟩, ⟨?_, g2, g5, by dsimp only; omega, by dsimp only; omega, .inr ⟨bu, cu, r3, r4, r5, rfl⟩, fun z hz => ?_, w2, mk2⟩, Nat.lt_succ_self _, ⟨?_, rfl, ?_⟩, ?_⟩
        · dsimp only
          rw [List.map_append, List.map_cons, List.map_nil, hY]
          exact hL
        · rcases List.mem_append.1 hz with hz | hz
          · exact (hok z hz).ext hxM
          · rw [List.mem_singleton.1 hz]; exact hYk.ext hxN
        · dsimp only; rw [hl2]
        · refine ⟨by simp [findE], ?_⟩
          simp only [remE, if_true]
          exact subH_skip6 vb (subH_skip6 v9 (subH_self M2))
        · rfl
    · have d1 : ¬ (a : Int) < (e : Int) := by omega
      rw [hDe]
      simp only [push_cast, seval, reduceCtorEq, d1, hb6, hb8]
      have hke : R = .ok (ks.map Iv.it) a m := by
        rw [← hL]
        cases k with
        | zero => omega
        | succ k => rw [listD, if_neg (by omega)]
      refine ⟨decE bd s a m :: (N ++ M), ?_, .inr ⟨_, a, m, .mk true [] (.slice pk ks.length ck) ks, N ++ M, by rw [hke]; rfl, rfl, by simp only [Iv.it]; rw [Iv.its_map], rfl, ⟨allWr_app ho.wr.1 hwM, by rw [marks_append, ho.wr.2, hmM]; rfl, qd⟩, ?_⟩⟩
      · rw [dropM_eq (by rw [marks_append, ho.wr.2, hmM]; rfl)]
        exact ((List.Sublist.refl _).cons _).cons _
      · exact .mk _ (ho.liR rfl rfl M) (by show ks.length ≤ _; omega) fun y hy => (hok y hy).ext (Ext.front hmM ho.wr.2 hNM)
end Go.Proofs.YtolmipnaheifcaaDoor
set_option linter.unusedSimpArgs false
set_option linter.unusedVariables false
namespace Go.Ev
theorem updE_behind {b : Nat} {M : Hp} {cs : List Value} : ∀ {N : Hp}, fresh b N → updE (N ++ M) b cs = N ++ updE M b cs
  | [], _ => rfl
  | e :: r, h => by rw [List.cons_append, updE, if_neg h.1, updE_behind h.2.2]; rfl
theorem findE_behind1 {b : Nat} {M : Hp} : ∀ {N : Hp}, fresh b N → findE (N ++ M) b = findE M b
  | [], _ => rfl
  | e :: r, h => by rw [List.cons_append, findE, if_neg h.1, findE_behind1 h.2.2]
end Go.Ev
namespace Go.Proofs.YtolmipnaheifcaaDoor
open Go Go.Ev Go.Proofs
set_option maxRecDepth 100000
set_option maxHeartbeats 4000000
theorem ditem_ok {bd : Nat} {s : List UInt8} (hs : s.length ≤ 1099511627776) : ∀ (d i : Nat), i + d = 16 → ∀ (e a m : Nat), e ≤ s.length → a ≤ e → m ≤ 5000 →
    CallsV Tryd.prog 38 [.pointer (some ⟨bd, 0, none⟩), .int .i64 (e : Int), .int .i64 (i : Int)] [decE bd s a m] (ItemK bd s (itemD s d e a m)) := by
  intro d
  induction d with
  | zero =>
    intro i hi e a m he hae hm
    have hDe : ∀ a m, decE bd s a m = ⟨bd, 0, .cel 60, [.string (bs s), .int .i64 (a : Int), .int .i64 (m : Int)]⟩ := fun _ _ => rfl
    rw [itemD_zero, hDe]
    refine callsO gO2_ok Tryd.mix Tryd.pl38 Tryd.func38 rfl Tryd.ntmps38 Tryd.results38 rfl (by first | rfl | assumption) (Nat.le_of_ble_eq_true rfl) (by kernel_rfl) ?_
    simp only [push_cast, seval, reduceCtorEq]
    intro b6 hb6
    refine CallsV.useM (m := decE bd s a m) (Hf := []) (ahead_ok (by omega) (by omega) (by omega) (by omega)) (by rw [hDe]; simp only [push_cast, seval, reduceCtorEq, hb6]) rfl trivial ?_
    rintro v N (⟨h1, rfl, rfl⟩ | ⟨x, b, h1, rfl, rfl⟩)
    · unfold aheadD at h1
      rw [if_pos (by omega)] at h1
      cases h1
    unfold aheadD at h1
    rw [if_pos (by omega)] at h1
    cases h1
    refine ⟨⟨trivial, trivial, trivial⟩, rfl, fun hfr => ?_⟩
    unfold faE decE at hfr ⊢
    unfold faV
    simp only [push_cast, seval, reduceCtorEq, hb6] at hfr
    simp only [push_cast, seval, reduceCtorEq, hb6, hfr]
    exact ⟨_, ((List.nil_sublist _).cons_cons _).cons_cons _, .inl ⟨13, a, b, a, m, _, _, _, _, _, rfl, rfl, rfl⟩⟩
  | succ d ih =>
    intro i hi e a m he hae hm
    have hDe : ∀ a m, decE bd s a m = ⟨bd, 0, .cel 60, [.string (bs s), .int .i64 (a : Int), .int .i64 (m : Int)]⟩ := fun _ _ => rfl
    obtain ⟨R, hR⟩ : ∃ R, R = itemD s (d + 1) e a m := ⟨_, rfl⟩
    rw [← hR, hDe]
    rw [itemD_succ] at hR
    unfold stepD at hR
    refine callsO gO2_ok Tryd.mix Tryd.pl38 Tryd.func38 rfl Tryd.ntmps38 Tryd.results38 rfl (by first | rfl | assumption) (Nat.le_of_ble_eq_true rfl) (by kernel_rfl) ?_
    simp only [push_cast, seval, reduceCtorEq]
    intro b6 hb6
    refine CallsV.useM (m := decE bd s a m) (Hf := []) (ahead_ok (by omega) (by omega) (by omega) (by omega)) (by rw [hDe]; simp only [push_cast, seval, reduceCtorEq, hb6]) rfl trivial ?_
    rintro v N (⟨h1, rfl, rfl⟩ | ⟨x, b, h1, rfl, rfl⟩)
    case inr =>
      have hb : R = .bad x a := by
        rw [hR]
        unfold aheadD at h1
        rw [if_neg (by omega)] at h1
        split at h1
        · cases h1; rw [if_pos (by assumption)]
        · rename_i c1
          rw [if_neg c1]
          split at h1
          · cases h1; rw [if_pos (by assumption)]
          · cases h1
      refine ⟨⟨trivial, trivial, trivial⟩, rfl, fun hfr => ?_⟩
      unfold faE decE at hfr ⊢
      unfold faV
      simp only [push_cast, seval, reduceCtorEq, hb6] at hfr
      simp only [push_cast, seval, reduceCtorEq, hb6, hfr]
      exact ⟨_, ((List.nil_sublist _).cons_cons _).cons_cons _, .inl ⟨x, a, b, a, m, _, _, _, _, _, hb, rfl, rfl⟩⟩
    have h5 : ¬ 5000 ≤ m ∧ ¬ e ≤ a := by
      unfold aheadD at h1
      rw [if_neg (by omega)] at h1
      split at h1
      · cases h1
      · rename_i c1
        split at h1
        · cases h1
        · rename_i c2; exact ⟨c1, c2⟩
    rw [if_neg h5.1, if_neg h5.2] at hR
    obtain ⟨h5a, h5b⟩ := h5
    refine ⟨⟨trivial, trivial⟩, rfl, fun hfr => ?_⟩
    clear hfr
    have hal : a < s.length := by omega
    have hal' : (a : Int) < (s.length : Int) := by omega
    have b0 := nb_at hal
    obtain ⟨c, hc⟩ : ∃ c, c = s.getD a 0 := ⟨_, rfl⟩
    rw [← hc] at b0 hR
    obtain ⟨p, hp⟩ : ∃ p, p = a + 1 := ⟨_, rfl⟩
    have wp : IntKind.i64.wrap ((a : Int) + 1) = (p : Int) := by rw [show (a : Int) + 1 = (p : Int) by omega]; exact IntWalk.i64_in _ (by omega)
    unfold decE
    by_cases c1 : c.toNat < 128
    · have d1 : (c.toNat : Int) < 128 := by omega
      rw [if_pos c1] at hR
      have p1 : a ≤ p := by omega
      have p1' : (a : Int) ≤ (p : Int) := by omega
      have p2 : p ≤ s.length := by omega
      have p2' : (p : Int) ≤ (s.length : Int) := by omega
      have p3 : p - a = 1 := by omega
      have ht : List.take 1 (List.drop a s) = [c] := by
        have := subS_succ (s := s) (a := a) 0 hal
        unfold subS at this
        rw [this, hc]; rfl
      simp only [push_cast, seval, reduceCtorEq, hb6, hal, hal', b0, d1, wp, p1, p1', p2, p2', p3, ht]
      exact ⟨[decE bd s p (m + 1)], (List.nil_sublist _).cons_cons _, .inr ⟨_, p, m + 1, .mk false [c] (.slice none 0 0) [], [], by rw [hR, hp], rfl, by simp only [Iv.it, Iv.its], rfl, ⟨trivial, rfl, trivial⟩, IvOk.text _ _ _ _⟩⟩
    have d1 : ¬ (c.toNat : Int) < 128 := by omega
    rw [if_neg c1] at hR
    have hu := c.toNat_lt
    by_cases c2 : c.toNat < 192
    · have d2 : ¬ (192 : Int) ≤ (c.toNat : Int) := by omega
      rw [if_pos c2] at hR
      simp only [push_cast, seval, reduceCtorEq, hb6, hal, hal', b0, d1, d2]
      refine CallsV.useM (m := decE bd s a (m + 1)) (Hf := []) (size_ok (k := 128) (by decide) hs he (by omega) (by rw [← hc]; omega) (by rw [← hc]; omega)) (by rw [hDe]; simp only [push_cast, seval, reduceCtorEq, hb6]) rfl trivial ?_
      rintro v N (⟨x, q, b, a', h2, rfl, rfl⟩ | ⟨n, b, z, h2, rfl, rfl⟩)
      · rw [h2] at hR
        refine ⟨⟨trivial, trivial, trivial⟩, rfl, fun hfr => ?_⟩
        unfold faE decE at hfr ⊢
        unfold faV
        simp only [push_cast, seval, reduceCtorEq, hb6] at hfr
        simp only [push_cast, seval, reduceCtorEq, hb6, hfr]
        exact ⟨_, ((List.nil_sublist _).cons_cons _).cons_cons _, .inl ⟨x, q, b, a', m + 1, _, _, _, _, _, hR, rfl, rfl⟩⟩
      obtain ⟨z1, z2, z3⟩ := sizeD_ok (by omega) he (by rw [← hc]; omega) (by rw [← hc]; omega) h2
      rw [h2] at hR
      dsimp only at hR
      unfold textD at hR
      refine ⟨⟨trivial, trivial⟩, rfl, fun hfr => ?_⟩
      clear hfr
      unfold decE
      obtain ⟨q, hq⟩ : ∃ q, q = b + n := ⟨_, rfl⟩
      have wq : IntKind.i64.wrap ((b : Int) + (n : Int)) = (q : Int) := by rw [show (b : Int) + (n : Int) = (q : Int) by omega]; exact IntWalk.i64_in _ (by omega)
      have q1 : b ≤ q := by omega
      have q1' : (b : Int) ≤ (q : Int) := by omega
      have q2 : q ≤ s.length := by omega
      have q2' : (q : Int) ≤ (s.length : Int) := by omega
      have q3 : q - b = n := by omega
      obtain ⟨t, ht⟩ : ∃ t, t = (s.drop b).take n := ⟨_, rfl⟩
      have tl : t.length = n := by rw [ht, List.length_take, List.length_drop]; omega
      rw [← ht] at hR
      have text : R = .ok (.mk false t []) (b + n) (m + 1) → ∃ H', List.Sublist H' [decE bd s q (m + 1), ⟨b6, 0, .cel 29, [.bool false, .string (bs t), .slice none 0 0]⟩] ∧ ItemK bd s R (.tuple #[.agg #[.bool false, .string (bs t), .slice none 0 0], .nilIface]) H' := fun hr =>
        ⟨[decE bd s q (m + 1)], (List.nil_sublist _).cons_cons _, .inr ⟨_, q, m + 1, .mk false t (.slice none 0 0) [], [], by rw [hr, hq], rfl, by simp only [Iv.it, Iv.its], rfl, ⟨trivial, rfl, trivial⟩, IvOk.text _ _ _ _⟩⟩
      by_cases n1 : n = 1
      · have e1 : ((n : Int) == 1) = true := by rw [n1]; rfl
        have t0 : 0 < t.length := by omega
        have t0' : (0 : Int) < (t.length : Int) := by omega
        have tb0 : (bs t).data[0]? = some (s.getD b 0) := by
          rw [nbs_idx t0]
          have := subS_succ (s := s) (a := b) (n - 1) (by omega)
          unfold subS at this
          rw [show n - 1 + 1 = n by omega, ← ht] at this
          congr 1
          simp only [this, List.getElem_cons_zero]
        by_cases c3 : (s.getD b 0).toNat < 128
        · have d3 : ((s.getD b 0).toNat : Int) < 128 := by omega
          rw [if_pos ⟨n1, c3⟩] at hR
          simp only [push_cast, seval, reduceCtorEq, hb6, wq, q1, q1', q2, q2', q3, ← ht, e1, t0, t0', tb0, d3]
          intro b7 hb7
          simp only [push_cast, seval, reduceCtorEq, hb6, hb7]
          exact ⟨[faE b7 11 a, decE bd s b (m + 1)], ((List.nil_sublist _).cons_cons _).cons_cons _, .inl ⟨11, a, b7, b, m + 1, _, _, _, _, _, hR, rfl, rfl⟩⟩
        · have d3 : ¬ ((s.getD b 0).toNat : Int) < 128 := by omega
          rw [if_neg (fun h => c3 h.2)] at hR
          simp only [push_cast, seval, reduceCtorEq, hb6, wq, q1, q1', q2, q2', q3, ← ht, e1, t0, t0', tb0, d3]
          exact text hR
      · have e1 : ((n : Int) == 1) = false := by rw [beq_eq_false_iff_ne]; omega
        rw [if_neg (fun h => n1 h.1)] at hR
        simp only [push_cast, seval, reduceCtorEq, hb6, wq, q1, q1', q2, q2', q3, ← ht, e1]
        exact text hR
    · have d2 : (192 : Int) ≤ (c.toNat : Int) := by omega
      rw [if_neg c2] at hR
      simp only [push_cast, seval, reduceCtorEq, hb6, hal, hal', b0, d1, d2]
      refine CallsV.useM (m := decE bd s a (m + 1)) (Hf := []) (size_ok (k := 192) (by decide) hs he (by omega) (by rw [← hc]; omega) (by rw [← hc]; omega)) (by rw [hDe]; simp only [push_cast, seval, reduceCtorEq, hb6]) rfl trivial ?_
      rintro v N (⟨x, q, b, a', h2, rfl, rfl⟩ | ⟨n, b, z, h2, rfl, rfl⟩)
      · rw [h2] at hR
        refine ⟨⟨trivial, trivial, trivial⟩, rfl, fun hfr => ?_⟩
        unfold faE decE at hfr ⊢
        unfold faV
        simp only [push_cast, seval, reduceCtorEq, hb6] at hfr
        simp only [push_cast, seval, reduceCtorEq, hb6, hfr]
        exact ⟨_, ((List.nil_sublist _).cons_cons _).cons_cons _, .inl ⟨x, q, b, a', m + 1, _, _, _, _, _, hR, rfl, rfl⟩⟩
      obtain ⟨z1, z2, z3⟩ := sizeD_ok (by omega) he (by rw [← hc]; omega) (by rw [← hc]; omega) h2
      rw [h2] at hR
      dsimp only at hR
      refine ⟨⟨trivial, trivial⟩, rfl, fun hfr => ?_⟩
      clear hfr
      unfold decE
      obtain ⟨q, hq⟩ : ∃ q, q = b + n := ⟨_, rfl⟩
      have wq : IntKind.i64.wrap ((b : Int) + (n : Int)) = (q : Int) := by rw [show (b : Int) + (n : Int) = (q : Int) by omega]; exact IntWalk.i64_in _ (by omega)
      rw [← hq] at hR
      simp only [push_cast, seval, reduceCtorEq, hb6, wq]
      refine CallsV.useM (m := decE bd s b (m + 1)) (Hf := []) (dlist_ok (d := d) hs (by omega) (by omega) (by omega) (by omega) (fun a m ha hm => ih (i + 1) (by omega) q a m (by omega) (by omega) hm)) (by rw [hDe]; simp only [push_cast, seval, reduceCtorEq, hb6]) rfl trivial ?_
      rw [← hR]
      rintro v N (⟨x, p, b', a', m', c0, c1, c2, n, c, hr, rfl, rfl⟩ | ⟨x, a', m', y, Nk, hr, rfl, rfl, rfl, ⟨hwk, hmk, hdk⟩, hyk⟩)
      · refine ⟨⟨trivial, trivial, trivial⟩, rfl, fun hfr => ?_⟩
        unfold faE decE at hfr ⊢
        unfold faV
        simp only [push_cast, seval, reduceCtorEq, hb6] at hfr
        simp only [push_cast, seval, reduceCtorEq, hb6, hfr]
        exact ⟨_, ((List.nil_sublist _).cons_cons _).cons_cons _, .inl ⟨x, p, b', a', m', _, _, _, _, _, hr, rfl, rfl⟩⟩
      · refine ⟨⟨trivial, hwk⟩, by rw [show decE bd s a' m' :: Nk = [decE bd s a' m'] ++ Nk from rfl, marks_append, hmk]; rfl, fun hfr => ?_⟩
        obtain ⟨yl, yb, yv, yks⟩ := y
        obtain ⟨py, cy, hsy, -⟩ := id hyk.li
        replace hsy : yv = .slice py yks.length cy := hsy
        subst hsy
        have hyv : (Iv.mk yl yb (.slice py yks.length cy) yks).v = .agg #[.bool yl, .string (bs yb), .slice py yks.length cy] := rfl
        obtain ⟨fd, fk⟩ := hfr
        unfold decE at fd ⊢
        simp only [push_cast, seval, reduceCtorEq, hb6] at fd
        have f6 : fresh b6 Nk := by
          have h := fk
          simp only [remE, hDe, if_true] at h
          exact (freshN_sym h).1
        have e1 : ∀ M : Hp, findE (Nk ++ M) b6 = findE M b6 := fun M => findE_behind1 f6
        have e2 : ∀ (M : Hp) (cs : List Value), updE (Nk ++ M) b6 cs = Nk ++ updE M b6 cs := fun M cs => updE_behind f6
        have e3 : ∀ cs, dropM (Nk ++ [⟨b6, 0, .cel 29, cs⟩]) = Nk ++ [⟨b6, 0, .cel 29, cs⟩] := fun cs => dropM_eq (by rw [marks_append, hmk]; rfl)
        simp only [push_cast, seval, reduceCtorEq, hb6, fd, hyv, e1, e2, e3]
        exact ⟨decE bd s a' m' :: Nk, (List.sublist_append_left _ _).cons_cons _, .inr ⟨_, a', m', _, Nk, hr, rfl, rfl, rfl, ⟨hwk, hmk, hdk⟩, hyk⟩⟩
end Go.Proofs.YtolmipnaheifcaaDoor
set_option linter.unusedSimpArgs false
set_option linter.unusedVariables false
namespace Go.Ev
theorem drawN {P : Program} {r : Option Nat} {n : Nat} {G : Gam} (hG : GamOk P G) (hmix : P.follows .mixedOrders = true) {id : Nat} {ops : Array Oper} {K : Exit → Tm → Hp → Prop} {T : Tm} {H : Hp} (Tb : Tm) (val : Nat → Value) (st : (Nat → Bool) → Hp)
    (hb : backB ops = true) (hd : dstB n ops = true) (hTb : subT T Tb) (hTd : (Tb.all fun x => !(ops.toList.filterMap (·.dst)).contains x.1) = true) (h0 : H = st (fun _ => false))
    (step : ∀ (i : Nat) (o : Oper), ops[i]? = some o → ∀ (l : Nat → Bool) (T' : Tm), l i = false → (∀ j, (o.after.any fun e => Region.binds .any e && e.on == j) = true → l j = true ∧ ∀ s, (ops[j]?).bind (·.dst) = some s → getT T' s = some (val j)) →
      (∀ k j, ((ops[k]?).any fun p => p.after.any fun e => Region.binds .any e && e.on == j) = true → l k = true → l j = true) → subT T' Tb →
      evOp P G T' (st l) o.op (fun v H'' => (o.dst.isSome = true → v = val i) ∧ H'' = st (fun j => j == i || l j)))
    (fin : ∀ l, (∀ i, i < ops.size → l i = true) → K .normal (dstsL val Tb ops.toList 0) (st l)) : WpV P r n (.region id ops true) K T H := by
  refine drawI hG hmix (fun l T' H' => H' = st l ∧ (∀ i o, ops[i]? = some o → l i = true → (∀ e ∈ o.after, Region.binds .any e = true → l e.on = true) ∧ ∀ s, o.dst = some s → getT T' s = some (val i)) ∧ subT T' Tb) hb ⟨h0, (fun _ _ _ h => by cases h), hTb⟩ ?_ ?_
  · rintro l T' H' i o hap ⟨rfl, h1, h2⟩ ho hli hdeps
    refine ⟨_, _, List.Perm.refl _, rfl, step i o ho l T' hli (fun j hj => ?_) (fun k j hk hl => ?_) h2, ?_⟩
    · obtain ⟨e, he, heb⟩ := Array.any_eq_true'.1 hj
      simp only [Bool.and_eq_true, beq_iff_eq] at heb
      obtain ⟨hbb, rfl⟩ := heb
      have hlt := (backB_spec hb ho).2 e he hbb
      have hi := (Array.getElem?_eq_some_iff.1 ho).1
      have hp : ops[e.on]? = some ops[e.on] := Array.getElem?_eq_getElem (by omega)
      exact ⟨hdeps e he hbb, fun s hs => (h1 e.on _ hp (hdeps e he hbb)).2 s (by rw [hp] at hs; exact hs)⟩
    · cases hp : ops[k]? with
      | none => rw [hp] at hk; cases hk
      | some p =>
        rw [hp] at hk
        obtain ⟨e, he, heb⟩ := Array.any_eq_true'.1 hk
        simp only [Bool.and_eq_true, beq_iff_eq] at heb
        obtain ⟨hbb, rfl⟩ := heb
        exact (h1 k p hp hl).1 e he hbb
    · rintro v H'' ⟨hv, rfl⟩
      have hni : ∀ j, l j = true → j ≠ i := fun j hj h => by rw [h, hli] at hj; cases hj
      refine ⟨rfl, fun j p hp hj => ?_, subT_of fun k u hm => ?_⟩
      · by_cases hji : j = i
        · subst hji
          obtain rfl : o = p := Option.some.inj (ho.symm.trans hp)
          refine ⟨fun e he hbb => by show (e.on == j || l e.on) = true; rw [hdeps e he hbb, Bool.or_true], fun s hs => ?_⟩
          rw [hs, getT_put (dstB_spec hd ho hs).1, if_pos rfl, hv (by rw [hs]; rfl)]
        · have hjl : l j = true := by simpa [hji] using hj
          obtain ⟨g1, g4⟩ := h1 j p hp hjl
          refine ⟨fun e he hbb => by show (e.on == i || l e.on) = true; rw [g1 e he hbb, Bool.or_true], fun s hs => ?_⟩
          cases hod : o.dst with
          | none => exact g4 s hs
          | some s' =>
            rw [getT_put (dstB_spec hd ho hod).1, if_neg (fun hss => hji ((dstB_spec hd hp hs).2 i o ho (by rw [hod, hss])))]
            exact g4 s hs
      · have h9 := subT_mem h2 hm
        cases hod : o.dst with
        | none => exact h9
        | some s' =>
          rw [getT_put (dstB_spec hd ho hod).1, if_neg (fun hks => ?_)]
          · exact h9
          · have := List.all_eq_true.1 hTd (k, u) hm
            simp only [Bool.not_eq_true', List.contains_eq_mem, decide_eq_false_iff_not] at this
            exact this (List.mem_filterMap.2 ⟨o, List.mem_of_getElem? (by simpa using ho), by rw [hod, hks]⟩)
  · rintro l T' H' hall hap ⟨rfl, h1, h2⟩
    refine ⟨_, _, List.Perm.refl _, rfl, subT_of fun k u hm => ?_, fin l hall⟩
    rcases dstsL_mem hm with h | ⟨j, o, ho, hs, rfl⟩
    · exact subT_mem h2 h
    · have ho' : ops[j]? = some o := by simpa using ho
      rw [Nat.zero_add]
      exact (h1 j o ho' (hall j (Array.getElem?_eq_some_iff.1 ho').1)).2 k hs
end Go.Ev
set_option linter.unusedSimpArgs false
set_option linter.unusedVariables false
namespace Go.Ev
theorem cellsAt_behind {L M : Hp} {b o n : Nat} {cs : List Value} (hL : freshN L M) (h : cellsAt M b o n = some cs) : cellsAt (L ++ M) b o n = some cs := by
  obtain ⟨e, he⟩ := cellsAt_findS h
  unfold cellsAt at h ⊢
  rw [find_behind hL b e he]
  rw [he] at h
  exact h
end Go.Ev
namespace Go.Proofs.YtolmipnaheifcaaDoor
open Go Go.Ev Go.Proofs
set_option maxRecDepth 100000
set_option maxHeartbeats 4000000
def WholeK (r : Rd It) : Value → Hp → Prop := fun v H' =>
  (∃ x p b c0 c1 c2 n c, r = .bad x p ∧ v = .tuple #[.agg #[.bool c0, .string c1, .slice c2 n c], faV b] ∧ H' = [faE b x p]) ∨
  ∃ x a' m' y N, r = .ok x a' m' ∧ v = .tuple #[Iv.v y, .nilIface] ∧ y.it = x ∧ H' = N ∧ (allWr N ∧ marksOf N = []) ∧ IvOk N y
theorem dwhole_ok {bd : Nat} {s : List UInt8} (hs : s.length ≤ 1099511627776) : CallsV Tryd.prog 25 [.pointer (some ⟨bd, 0, none⟩)] [decE bd s 0 0] (WholeK (wholeD s)) := by
  have hDe : ∀ a m, decE bd s a m = ⟨bd, 0, .cel 60, [.string (bs s), .int .i64 (a : Int), .int .i64 (m : Int)]⟩ := fun _ _ => rfl
  obtain ⟨R, hR⟩ : ∃ R, R = wholeD s := ⟨_, rfl⟩
  rw [← hR, hDe]
  unfold wholeD at hR
  refine callsO gO2_ok Tryd.mix Tryd.pl25 Tryd.func25 rfl Tryd.ntmps25 Tryd.results25 rfl (by first | rfl | assumption) (Nat.le_of_ble_eq_true rfl) (by kernel_rfl) ?_
  simp only [push_cast, seval, reduceCtorEq]
  intro b2 hb2
  simp only [push_cast, seval, reduceCtorEq, hb2]
  have hI : CallsV Tryd.prog 38 [.pointer (some ⟨bd, 0, none⟩), .int .i64 (s.length : Int), .int .i64 0] [decE bd s 0 0] (ItemK bd s (itemD s 16 s.length 0 0)) := ditem_ok hs 16 0 rfl s.length 0 0 (Nat.le_refl _) (Nat.zero_le _) (Nat.zero_le _)
  refine CallsV.useM (m := decE bd s 0 0) (Hf := []) hI (by rw [hDe]; simp only [push_cast, seval, reduceCtorEq, hb2]) rfl trivial ?_
  rintro v N (⟨x, p, b', a', m', c0, c1, c2, n, c, hr, rfl, rfl⟩ | ⟨x, a', m', y, Nk, hr, rfl, rfl, rfl, ⟨hwk, hmk, hdk⟩, hyk⟩)
  · rw [hr] at hR
    dsimp only at hR
    refine ⟨⟨trivial, trivial, trivial⟩, rfl, fun hfr => ?_⟩
    unfold faE decE at hfr ⊢
    unfold faV
    simp only [push_cast, seval, reduceCtorEq, hb2] at hfr
    simp only [push_cast, seval, reduceCtorEq, hb2, hfr]
    intro b4 hb4
    simp only [push_cast, seval, reduceCtorEq, hb2, hfr, hb4]
    exact ⟨[faE b' x p], ((List.nil_sublist _).cons_cons _).cons _, .inl ⟨x, p, b', _, _, _, _, _, hR, rfl, rfl⟩⟩
  · rw [hr] at hR
    dsimp only at hR
    refine ⟨⟨trivial, hwk⟩, by rw [show decE bd s a' m' :: Nk = [decE bd s a' m'] ++ Nk from rfl, marks_append, hmk]; rfl, fun hfr => ?_⟩
    obtain ⟨yl, yb, yv, yks⟩ := y
    obtain ⟨py, cy, hsy, -⟩ := id hyk.li
    replace hsy : yv = .slice py yks.length cy := hsy
    subst hsy
    have hyv : (Iv.mk yl yb (.slice py yks.length cy) yks).v = .agg #[.bool yl, .string (bs yb), .slice py yks.length cy] := rfl
    obtain ⟨fd, fk⟩ := hfr
    unfold decE at fd ⊢
    simp only [push_cast, seval, reduceCtorEq, hb2] at fd
    have f2 : fresh b2 Nk := by
      have h := fk
      simp only [remE, hDe, if_true, if_neg hb2.2] at h
      exact (freshN_sym h).1
    have e1 : ∀ M : Hp, findE (Nk ++ M) b2 = findE M b2 := fun M => findE_behind1 f2
    have e2 : ∀ (M : Hp) (cs : List Value), updE (Nk ++ M) b2 cs = Nk ++ updE M b2 cs := fun M cs => updE_behind f2
    have e3 : ∀ cs, dropM (Nk ++ [⟨b2, 0, .cel 29, cs⟩]) = Nk ++ [⟨b2, 0, .cel 29, cs⟩] := fun cs => dropM_eq (by rw [marks_append, hmk]; rfl)
    simp only [push_cast, seval, reduceCtorEq, hb2, fd, hyv, e1, e2, e3]
    intro b4 hb4
    have n42 : ¬ b4 = b2 ∧ ¬ b2 = b4 := ⟨(fresh_app_iff.1 hb4.2.2).2.1, (fresh_app_iff.1 hb4.2.2).2.2.1⟩
    have e2b : ∀ (M : Hp) (cs : List Value), updE (Nk ++ M) b2 cs = Nk ++ updE M b2 cs := e2
    by_cases hlt : a' < s.length
    · have d1 : (a' : Int) < (s.length : Int) := by omega
      rw [if_pos hlt] at hR
      simp only [push_cast, seval, reduceCtorEq, hb2, fd, hyv, e1, e2, e3, hb4, d1]
      intro b hb
      have n2 : ¬ b = b2 ∧ ¬ b2 = b := ⟨(fresh_app_iff.1 hb.2.2.2.2).2.1, (fresh_app_iff.1 hb.2.2.2.2).2.2.1⟩
      simp only [push_cast, seval, reduceCtorEq, hb2, fd, hyv, e1, e2, e3, hb4, d1, hb, n42, n2]
      exact ⟨[faE b 12 a'], (List.nil_sublist _).cons_cons _, .inl ⟨12, a', b, _, _, _, _, _, hR, rfl, rfl⟩⟩
    · have d1 : ¬ (a' : Int) < (s.length : Int) := by omega
      rw [if_neg hlt] at hR
      simp only [push_cast, seval, reduceCtorEq, hb2, fd, hyv, e1, e2, e3, hb4, d1, n42]
      exact ⟨Nk, ((List.sublist_append_left _ _).cons _).cons _, .inr ⟨_, a', m', _, Nk, hR, rfl, rfl, rfl, ⟨hwk, hmk⟩, hyk⟩⟩
def errE : Ent := ⟨0, 0, .ro, [.iface 115 (.agg #[.pointer (some ⟨4, 56, none⟩)])]⟩
theorem errE_R : ErrR [errE] := by unfold ErrR errE cellsAt; simp [findE, subL]
def DecQ (s : List UInt8) : Value → Hp → Prop := fun v H => ∃ y e p, v = .tuple #[Iv.v y, .int .i64 (e : Nat), .int .i64 (p : Nat)] ∧ decD s = (y.it, e, p) ∧ IvOk H y
theorem DecQ.rd (s : List UInt8) : RdOnly (DecQ s) := fun v A B h ⟨y, e, p, h1, h2, h3⟩ => ⟨y, e, p, h1, h2, h3.congr h⟩
theorem decode_ok {M : Hp} (hk : ErrR M) (s : List UInt8) (hs : s.length ≤ 1099511627776) : CallsR Tryd.prog 12 [.string (bs s)] M (DecQ s) := by
  intro M0 hr he
  have hm := hr.marks
  replace hk := hk.congr he.symm
  have hDe : ∀ b a m, decE b s a m = ⟨b, 0, .cel 60, [.string (bs s), .int .i64 (a : Int), .int .i64 (m : Int)]⟩ := fun _ _ _ => rfl
  refine callsO gO2_ok Tryd.mix Tryd.pl12 Tryd.func12 rfl Tryd.ntmps12 Tryd.results12 rfl (by first | rfl | assumption) (Nat.le_of_ble_eq_true rfl) (by kernel_rfl) ?_
  simp only [push_cast, seval, reduceCtorEq]
  intro b2 hb2
  by_cases hlt : 1048576 < s.length
  · have d1 : (1048576 : Int) < (s.length : Int) := by omega
    simp only [push_cast, seval, reduceCtorEq, hb2, d1]
    refine ⟨[], List.nil_sublist _, trivial, rfl, fun _ => ⟨.mk false [] (.slice none 0 0) [], 2, 0, rfl, ?_, IvOk.text _ _ _ _⟩⟩
    unfold decD
    rw [if_pos hlt]
    simp only [Iv.it, Iv.its]
    rfl
  · have d1 : ¬ (1048576 : Int) < (s.length : Int) := by omega
    simp only [push_cast, seval, reduceCtorEq, hb2, d1]
    intro b hb
    have hrem : remE (⟨b, 0, .cel 60, [.string (bs s), .int .i64 0, .int .i64 0]⟩ :: ⟨b2, 0, .cel 29, [.bool false, .string ByteArray.empty, .slice none 0 0]⟩ :: M0) (decE b s 0 0).blk = ⟨b2, 0, .cel 29, [.bool false, .string ByteArray.empty, .slice none 0 0]⟩ :: M0 := by rw [hDe]; simp only [push_cast, seval, reduceCtorEq]
    refine CallsV.useM (m := decE b s 0 0) (Hf := []) (dwhole_ok hs) (by rw [hDe]; simp only [push_cast, seval, reduceCtorEq, hb]) rfl trivial ?_
    rw [hrem]
    have hW : decD s = match wholeD s with
      | .bad x p => (noI, x, p)
      | .ok x _ _ => (x, 0, 0) := by unfold decD; rw [if_neg hlt]; rfl
    rintro v N (⟨x, p, b', c0, c1, c2, n, c, hr, rfl, rfl⟩ | ⟨x, a', m', y, Nk, hr, rfl, rfl, rfl, ⟨hwk, hmk⟩, hyk⟩)
    · rw [hr] at hW
      dsimp only at hW
      refine ⟨⟨trivial, trivial⟩, rfl, fun hfr => ?_⟩
      unfold faE at hfr ⊢
      unfold faV
      obtain ⟨fb, -⟩ := hfr
      have fbM : fresh b' M0 := fb.2.2
      have fb' : ¬ b' = b2 ∧ ¬ b2 = b' := ⟨fb.1, fb.2.1⟩
      simp only [push_cast, seval, reduceCtorEq, fb']
      intro b5 hb5 b7 hb7
      have fL : freshN [⟨b5, 0, .cel 29, [.bool c0, .string c1, .slice c2 n c]⟩, ⟨b', 0, .cel 66, [.int .i64 (x : Int), .int .i64 (p : Int)]⟩, ⟨b2, 0, .cel 29, [.bool false, .string ByteArray.empty, .slice none 0 0]⟩] M0 := ⟨hb5.2.2.2.2, fbM, hb2, trivial⟩
      refine CallsV.useM (m := ⟨b7, 0, .cel 62, [.pointer none]⟩) (Hf := [errE]) (errAs_hit errE_R rfl) (by simp [findE]) rfl ?_ ?_
      · simp only [remE, if_true]
        exact ⟨⟨rfl, cellsAt_behind fL hk⟩, trivial⟩
      rintro v N ⟨rfl, rfl⟩
      refine ⟨⟨trivial, trivial⟩, rfl, fun hfr => ?_⟩
      clear hfr
      have h7 : ¬ b7 = b5 ∧ ¬ b5 = b7 ∧ ¬ b7 = b' ∧ ¬ b' = b7 ∧ ¬ b7 = b2 ∧ ¬ b2 = b7 := ⟨hb7.1, hb7.2.1, hb7.2.2.1, hb7.2.2.2.1, hb7.2.2.2.2.1, hb7.2.2.2.2.2.1⟩
      have h5 : ¬ b5 = b' ∧ ¬ b' = b5 ∧ ¬ b5 = b2 ∧ ¬ b2 = b5 := ⟨hb5.1, hb5.2.1, hb5.2.2.1, hb5.2.2.2.1⟩
      simp only [push_cast, seval, reduceCtorEq, fb', h7, h5]
      refine drawN gO2_ok Tryd.mix [(2, .pointer (some ⟨b2, 0, none⟩)), (7, .pointer (some ⟨b7, 0, none⟩))]
        (fun i => match i with
          | 0 => .agg #[.bool false, .string ByteArray.empty, .slice none 0 0]
          | 1 => .pointer (some ⟨b', 0, none⟩)
          | 2 => .pointer (some ⟨b', 0, none⟩)
          | 3 => .pointer (some ⟨b', 0, none⟩)
          | 4 => .int .i64 (x : Int)
          | 5 => .pointer (some ⟨b', 0, none⟩)
          | 6 => .pointer (some ⟨b', 0, none⟩)
          | 7 => .pointer (some ⟨b', 1, none⟩)
          | 8 => .int .i64 (p : Int)
          | 10 => .int .i64 (x : Int)
          | 11 => .int .i64 (p : Int)
          | _ => undef)
        (fun l => ⟨b7, 0, .cel 62, [.pointer (some ⟨b', 0, none⟩)]⟩ :: ⟨b5, 0, .cel 29, [.bool c0, .string c1, .slice c2 n c]⟩ :: ⟨b', 0, .cel 66, [.int .i64 (x : Int), .int .i64 (p : Int)]⟩ :: ⟨b2, 0, .cel 29, [.bool false, .string ByteArray.empty, .slice none 0 0]⟩ :: M0)
        (by kernel_rfl) (by kernel_rfl) ⟨rfl, rfl, trivial⟩ (by kernel_rfl) rfl ?_ ?_
      · intro i o ho l T' hli hdep hcl hT
        have hi := (Array.getElem?_eq_some_iff.1 ho).1
        replace hi : i < 12 := hi
        have t2 : getT T' 2 = some (.pointer (some ⟨b2, 0, none⟩)) := hT.1
        have t7 : getT T' 7 = some (.pointer (some ⟨b7, 0, none⟩)) := hT.2.1
        obtain rfl | rfl | rfl | rfl | rfl | rfl | rfl | rfl | rfl | rfl | rfl | rfl : i = 0 ∨ i = 1 ∨ i = 2 ∨ i = 3 ∨ i = 4 ∨ i = 5 ∨ i = 6 ∨ i = 7 ∨ i = 8 ∨ i = 9 ∨ i = 10 ∨ i = 11 := by omega
        all_goals simp only [List.getElem?_toArray, List.getElem?_cons_zero, List.getElem?_cons_succ, Option.some.injEq] at ho; subst ho
        · simp only [push_cast, seval, reduceCtorEq]
        · simp only [push_cast, seval, reduceCtorEq, t7]
        · have g := (hdep 1 (by kernel_rfl)).2 23 rfl
          simp only [push_cast, seval, reduceCtorEq, g]
        · have g := (hdep 2 (by kernel_rfl)).2 24 rfl
          simp only [push_cast, seval, reduceCtorEq, g]
        · have g := (hdep 3 (by kernel_rfl)).2 25 rfl
          simp only [push_cast, seval, reduceCtorEq, g, h7, h5, fb']
        · simp only [push_cast, seval, reduceCtorEq, t7]
        · have g := (hdep 5 (by kernel_rfl)).2 27 rfl
          simp only [push_cast, seval, reduceCtorEq, g]
        · have g := (hdep 6 (by kernel_rfl)).2 28 rfl
          simp only [push_cast, seval, reduceCtorEq, g]
        · have g := (hdep 7 (by kernel_rfl)).2 29 rfl
          simp only [push_cast, seval, reduceCtorEq, g, h7, h5, fb']
        · have g := (hdep 0 (by kernel_rfl)).2 22 rfl
          simp only [push_cast, seval, reduceCtorEq, g, t2, h7, h5, fb']
        · have g := (hdep 4 (by kernel_rfl)).2 26 rfl
          simp only [push_cast, seval, reduceCtorEq, g]
        · have g := (hdep 8 (by kernel_rfl)).2 30 rfl
          simp only [push_cast, seval, reduceCtorEq, g]
      intro l hl
      simp only [push_cast, seval, reduceCtorEq, dstsL, fb', h7, h5]
      refine ⟨[], List.nil_sublist _, trivial, rfl, fun _ => ⟨.mk false [] (.slice none 0 0) [], x, p, rfl, ?_, IvOk.text _ _ _ _⟩⟩
      rw [hW]
      simp only [Iv.it, Iv.its]
      rfl
    · rw [hr] at hW
      dsimp only at hW
      refine ⟨hwk, hmk, fun hfr => ?_⟩
      obtain ⟨yl, yb, yv, yks⟩ := y
      obtain ⟨py, cy, hsy, -⟩ := id hyk.li
      replace hsy : yv = .slice py yks.length cy := hsy
      subst hsy
      have hyv : (Iv.mk yl yb (.slice py yks.length cy) yks).v = .agg #[.bool yl, .string (bs yb), .slice py yks.length cy] := rfl
      simp only [push_cast, seval, reduceCtorEq, hyv]
      intro b5 hb5 b7 hb7
      refine CallsV.useM (m := ⟨b7, 0, .cel 62, [.pointer none]⟩) (Hf := []) errAs_nil (by simp [findE]) rfl trivial ?_
      rintro v N' ⟨rfl, rfl⟩
      refine ⟨⟨trivial, trivial⟩, rfl, fun _ => ?_⟩
      have f2 : fresh b2 N := (freshN_sym hfr).1
      have f5 := (fresh_app_iff.1 hb5).2
      have f7 := (fresh_app_iff.1 hb7.2.2).2
      have h7 : ¬ b7 = b5 ∧ ¬ b5 = b7 ∧ ¬ b7 = b2 ∧ ¬ b2 = b7 := ⟨hb7.1, hb7.2.1, f7.1, f7.2.1⟩
      have h5 : ¬ b5 = b2 ∧ ¬ b2 = b5 := ⟨f5.1, f5.2.1⟩
      have e1 : ∀ M : Hp, findE (N ++ M) b2 = findE M b2 := fun M => findE_behind1 f2
      have e2 : ∀ (M : Hp) (cs : List Value), updE (N ++ M) b2 cs = N ++ updE M b2 cs := fun M cs => updE_behind f2
      have e3 : ∀ cs, dropM (N ++ ⟨b2, 0, .cel 29, cs⟩ :: M0) = N ++ ⟨b2, 0, .cel 29, cs⟩ :: M0 := fun cs => dropM_eq (by rw [marks_append, hmk]; simp [marksOf, hm])
      simp only [push_cast, seval, reduceCtorEq, h7, h5, e1, e2, e3]
      refine ⟨N, ((List.sublist_append_left _ _).cons _).cons _, hwk, hmk, fun hf => ⟨_, 0, 0, rfl, hW, hyk.ext (Ext.app hmk hm)⟩⟩
end Go.Proofs.YtolmipnaheifcaaDoor
set_option linter.unusedSimpArgs false
set_option linter.unusedVariables false
namespace Go.Ev
def roE (e : Ent) : Ent := { e with kind := .ro }
theorem Ent.cel_ro {w : World} {b : Nat} {t : TypeId} {cs : List Value} (h : (⟨b, 0, .cel t, cs⟩ : Ent).holds w) : (⟨b, 0, .ro, cs⟩ : Ent).holds w := by
  obtain ⟨-, h⟩ := h
  refine ⟨(Array.getElem?_eq_some_iff.1 h).1, fun k v hk => ?_⟩
  dsimp only at hk h ⊢
  simp only [World.cell?, h, Option.isSome_none, Bool.false_eq_true, if_false]
  simpa using hk
theorem marks_nobj : ∀ {A : Hp}, (∀ e ∈ A, ∃ t, e.kind = .cel t) → marksOf A = []
  | [], _ => rfl
  | x :: r, h => by
    obtain ⟨t, ht⟩ := h x (by simp)
    simp only [marksOf, ht]
    exact marks_nobj fun e he => h e (by simp [he])
theorem marks_ro2 : ∀ (A : Hp), marksOf (A.map roE) = []
  | [] => rfl
  | x :: r => by simp only [List.map_cons, roE, marksOf]; exact marks_ro2 r
theorem Sat.toRo {w0 w : World} {mu : Nat → Prop} {A H : Hp} (hA : ∀ e ∈ A, e.off = 0 ∧ ∃ t, e.kind = .cel t) (hs : Sat w0 mu (A ++ H) w) : Sat w0 mu (A.map roE ++ H) w := by
  obtain ⟨p1, p2, p3⟩ := List.pairwise_append.1 hs.apart
  refine ⟨hs.os, hs.tape, hs.output, hs.size, hs.old, fun e he => ?_, fun e he hw => ?_, List.pairwise_append.2 ⟨?_, p2, fun x hx y hy hw => ?_⟩⟩
  · rcases List.mem_append.1 he with he | he
    · obtain ⟨a, ha, rfl⟩ := List.mem_map.1 he
      have := hs.ents a (List.mem_append_left _ ha)
      obtain ⟨h0, t, ht⟩ := hA a ha
      obtain ⟨b, o, k, cs⟩ := a
      dsimp only at h0 ht
      subst h0 ht
      exact Ent.cel_ro this
    · exact hs.ents e (List.mem_append_right _ he)
  · rcases List.mem_append.1 he with he | he
    · obtain ⟨a, ha, rfl⟩ := List.mem_map.1 he
      exact absurd hw id
    · exact hs.own e (List.mem_append_right _ he) hw
  · refine List.pairwise_iff_forall_sublist.2 fun {a b} hab hw => ?_
    obtain ⟨x, _, rfl⟩ := List.mem_map.1 (hab.subset (by simp : a ∈ [a, b]))
    obtain ⟨y, _, rfl⟩ := List.mem_map.1 (hab.subset (by simp : b ∈ [_, b]))
    rcases hw with hw | hw <;> exact hw.elim
  · obtain ⟨a, ha, rfl⟩ := List.mem_map.1 hx
    obtain ⟨h0, t, ht⟩ := hA a ha
    exact p3 a ha y hy (.inl (by unfold Ent.wr; rw [ht]; trivial))
theorem CallsV.toRo {P : Program} {g : FuncId} {args : List Value} {A H : Hp} {K : Value → Hp → Prop} (hA : ∀ e ∈ A, e.off = 0 ∧ ∃ t, e.kind = .cel t) (hc : CallsV P g args (A.map roE ++ H) K) : CallsV P g args (A ++ H) K :=
  ⟨hc.1, fun w0 mu w hs => by
    have := hc.2 w0 mu w (hs.toRo hA)
    rwa [marks_append, marks_ro2, ← marks_nobj (A := A) (fun e he => (hA e he).2), ← marks_append] at this⟩
theorem IterV.toRo {P : Program} {gf : FuncId} {caps : List Value} {A Hc : Hp} {vs : List (List Value)} (hA : ∀ e ∈ A, e.off = 0 ∧ ∃ t, e.kind = .cel t) (h : IterV P gf caps (A.map roE ++ Hc) vs) : IterV P gf caps (A ++ Hc) vs :=
  ⟨h.1, fun X Ho I St l x0 hro hmk h0 hy => by
    have := h.2 X Ho I St l x0 hro hmk h0 hy
    rw [List.append_assoc] at this ⊢
    exact CallsV.toRo hA this⟩
theorem WpV.dupN {P : Program} {r : Option Nat} {n : Nat} {c : Code} {K : Exit → Tm → Hp → Prop} {T : Tm} {L M : Hp} (hr : ∀ e ∈ M, e.kind = .ro) (h : WpV P r n c K T (M ++ (L ++ M))) : WpV P r n c K T (L ++ M) := by
  have hk : ∀ e ∈ M, ¬ e.wr := fun e he hw => by unfold Ent.wr at hw; rw [hr e he] at hw; exact hw
  have hmM : marksOf M = [] := by
    clear h hk
    induction M with
    | nil => rfl
    | cons x r ih => simp only [marksOf, hr x (by simp)]; exact ih fun e he => hr e (by simp [he])
  intro w0 mu a w hro ht hs hd
  obtain ⟨p1, p2, p3⟩ := List.pairwise_append.1 hs.apart
  refine h w0 mu a w hro ht ⟨hs.os, hs.tape, hs.output, hs.size, hs.old, fun e he => ?_, fun e he hw => ?_, List.pairwise_append.2 ⟨p2, hs.apart, fun x hx y hy hw => ?_⟩⟩ (by rw [hd]; unfold defersOf; rw [marks_append M, hmM]; rfl)
  · rcases List.mem_append.1 he with he | he
    · exact hs.ents e (List.mem_append_right L he)
    · exact hs.ents e he
  · rcases List.mem_append.1 he with he | he
    · exact absurd hw (hk e he)
    · exact hs.own e he hw
  · rcases List.mem_append.1 hy with hy | hy
    · exact (p3 y hy x hx (hw.symm)).symm
    · exact absurd hw (fun hw => hw.elim (hk x hx) (hk y hy))
def mkD (D : Nat) : Ent := ⟨D, 0, .obj (.deferred (some [])), []⟩
theorem mkD_wr (Ds : List Nat) : ∀ e ∈ Ds.map mkD, e.wr := fun e he => by obtain ⟨D, -, rfl⟩ := List.mem_map.1 he; trivial
theorem mkD_marks : ∀ Ds : List Nat, marksOf (Ds.map mkD) = Ds
  | [] => rfl
  | D :: r => by simp only [List.map_cons, mkD, marksOf]; rw [mkD_marks r]
theorem dropM_app : ∀ (A B : Hp), dropM (A ++ B) = dropM A ++ dropM B
  | [], B => rfl
  | e :: r, B => by
    rw [List.cons_append, dropM, dropM, dropM_app r B]
    split <;> rfl
theorem dropM_mkD : ∀ Ds : List Nat, dropM (Ds.map mkD) = []
  | [] => rfl
  | D :: r => by rw [List.map_cons, dropM, dropM_mkD r]; rfl
end Go.Ev
