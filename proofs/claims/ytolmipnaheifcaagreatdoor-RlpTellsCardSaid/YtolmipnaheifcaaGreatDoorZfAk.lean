/- Texts of this claim, merged by program: Oh Nf Ng Nh Oi. -/
import Derived.Test.YtolmipnaheifcaaGreatDoorZfAj
import Derived.Test.YtolmipnaheifcaaGreatDoorZfAi
import Derived.Test.YtolmipnaheifcaaGreatDoorZfAg
set_option linter.unusedSimpArgs false
set_option linter.unusedVariables false
namespace Go.Ev
theorem cellsAt_behind {L M : Hp} {b o n : Nat} {cs : List Value} (hL : freshN L M) (h : cellsAt M b o n = some cs) : cellsAt (L ++ M) b o n = some cs := by
  obtain ⟨e, he⟩ := cellsAt_findS h
  unfold cellsAt at h ⊢
  rw [find_behind hL b e he]
  rw [he] at h
  exact h
end Go.Ev
namespace Go.Proofs.YtolmipnaheifcaaGreatDoor
open Go Go.Ev Go.Proofs
set_option maxRecDepth 100000
set_option maxHeartbeats 4000000
def WholeK (r : Rd It) : Value → Hp → Prop := fun v H' =>
  (∃ x p b c0 c1 c2 n c, r = .bad x p ∧ v = .tuple #[.agg #[.bool c0, .string c1, .slice c2 n c], faV b] ∧ H' = [faE b x p]) ∨
  ∃ x a' m' y N, r = .ok x a' m' ∧ v = .tuple #[Iv.v y, .nilIface] ∧ y.it = x ∧ H' = N ∧ (allWr N ∧ marksOf N = []) ∧ IvOk N y
theorem dwhole_ok {bd : Nat} {s : List UInt8} (hs : s.length ≤ 1099511627776) : CallsV Tryz.prog 36 [.pointer (some ⟨bd, 0, none⟩)] [decE bd s 0 0] (WholeK (wholeD s)) := by
  have hDe : ∀ a m, decE bd s a m = ⟨bd, 0, .cel 66, [.string (bs s), .int .i64 (a : Int), .int .i64 (m : Int)]⟩ := fun _ _ => rfl
  obtain ⟨R, hR⟩ : ∃ R, R = wholeD s := ⟨_, rfl⟩
  rw [← hR, hDe]
  unfold wholeD at hR
  refine callsO gO2_ok Tryz.mix Tryz.pl36 Tryz.func36 rfl Tryz.ntmps36 Tryz.results36 rfl (by first | rfl | assumption) (Nat.le_of_ble_eq_true rfl) (by kernel_rfl) ?_
  simp only [push_cast, seval, reduceCtorEq]
  intro b2 hb2
  simp only [push_cast, seval, reduceCtorEq, hb2]
  have hI : CallsV Tryz.prog 56 [.pointer (some ⟨bd, 0, none⟩), .int .i64 (s.length : Int), .int .i64 0] [decE bd s 0 0] (ItemK bd s (itemD s 16 s.length 0 0)) := ditem_ok hs 16 0 rfl s.length 0 0 (Nat.le_refl _) (Nat.zero_le _) (Nat.zero_le _)
  refine CallsV.useM (m := decE bd s 0 0) (Hf := []) hI (by rw [hDe]; simp only [push_cast, seval, reduceCtorEq, hb2]) rfl trivial ?_
  rintro v N (⟨x, p, b', a', m', c0, c1, c2, n, c, hr, rfl, rfl⟩ | ⟨x, a', m', y, Nk, hr, rfl, rfl, rfl, ⟨hwk, hmk, hdk⟩, hyk⟩)
  · rw [hr] at hR
    dsimp only at hR
    refine ⟨⟨trivial, trivial, trivial⟩, rfl, fun hfr => ?_⟩
    unfold faE decE at hfr ⊢
    unfold faV
    simp only [push_cast, seval, reduceCtorEq, hb2] at hfr
    simp only [push_cast, seval, reduceCtorEq, hb2, hfr]
    intro b4 hb4
    simp only [push_cast, seval, reduceCtorEq, hb2, hfr, hb4]
    exact ⟨[faE b' x p], ((List.nil_sublist _).cons_cons _).cons _, .inl ⟨x, p, b', _, _, _, _, _, hR, rfl, rfl⟩⟩
  · rw [hr] at hR
    dsimp only at hR
    refine ⟨⟨trivial, hwk⟩, by rw [show decE bd s a' m' :: Nk = [decE bd s a' m'] ++ Nk from rfl, marks_append, hmk]; rfl, fun hfr => ?_⟩
    obtain ⟨yl, yb, yv, yks⟩ := y
    obtain ⟨py, cy, hsy, -⟩ := id hyk.li
    replace hsy : yv = .slice py yks.length cy := hsy
    subst hsy
    have hyv : (Iv.mk yl yb (.slice py yks.length cy) yks).v = .agg #[.bool yl, .string (bs yb), .slice py yks.length cy] := rfl
    obtain ⟨fd, fk⟩ := hfr
    unfold decE at fd ⊢
    simp only [push_cast, seval, reduceCtorEq, hb2] at fd
    have f2 : fresh b2 Nk := by
      have h := fk
      simp only [remE, hDe, if_true, if_neg hb2.2] at h
      exact (freshN_sym h).1
    have e1 : ∀ M : Hp, findE (Nk ++ M) b2 = findE M b2 := fun M => findE_behind1 f2
    have e2 : ∀ (M : Hp) (cs : List Value), updE (Nk ++ M) b2 cs = Nk ++ updE M b2 cs := fun M cs => updE_behind f2
    have e3 : ∀ cs, dropM (Nk ++ [⟨b2, 0, .cel 29, cs⟩]) = Nk ++ [⟨b2, 0, .cel 29, cs⟩] := fun cs => dropM_eq (by rw [marks_append, hmk]; rfl)
    simp only [push_cast, seval, reduceCtorEq, hb2, fd, hyv, e1, e2, e3]
    intro b4 hb4
    have n42 : ¬ b4 = b2 ∧ ¬ b2 = b4 := ⟨(fresh_app_iff.1 hb4.2.2).2.1, (fresh_app_iff.1 hb4.2.2).2.2.1⟩
    have e2b : ∀ (M : Hp) (cs : List Value), updE (Nk ++ M) b2 cs = Nk ++ updE M b2 cs := e2
    by_cases hlt : a' < s.length
    · have d1 : (a' : Int) < (s.length : Int) := by omega
      rw [if_pos hlt] at hR
      simp only [push_cast, seval, reduceCtorEq, hb2, fd, hyv, e1, e2, e3, hb4, d1]
      intro b hb
      have n2 : ¬ b = b2 ∧ ¬ b2 = b := ⟨(fresh_app_iff.1 hb.2.2.2.2).2.1, (fresh_app_iff.1 hb.2.2.2.2).2.2.1⟩
      simp only [push_cast, seval, reduceCtorEq, hb2, fd, hyv, e1, e2, e3, hb4, d1, hb, n42, n2]
      exact ⟨[faE b 12 a'], (List.nil_sublist _).cons_cons _, .inl ⟨12, a', b, _, _, _, _, _, hR, rfl, rfl⟩⟩
    · have d1 : ¬ (a' : Int) < (s.length : Int) := by omega
      rw [if_neg hlt] at hR
      simp only [push_cast, seval, reduceCtorEq, hb2, fd, hyv, e1, e2, e3, hb4, d1, n42]
      exact ⟨Nk, ((List.sublist_append_left _ _).cons _).cons _, .inr ⟨_, a', m', _, Nk, hR, rfl, rfl, rfl, ⟨hwk, hmk⟩, hyk⟩⟩
def errE : Ent := ⟨0, 0, .ro, [.iface 128 (.agg #[.pointer (some ⟨4, 62, none⟩)])]⟩
theorem errE_R : ErrR [errE] := by unfold ErrR errE cellsAt; simp [findE, subL]
def DecQ (s : List UInt8) : Value → Hp → Prop := fun v H => ∃ y e p, v = .tuple #[Iv.v y, .int .i64 (e : Nat), .int .i64 (p : Nat)] ∧ decD s = (y.it, e, p) ∧ IvOk H y
theorem DecQ.rd (s : List UInt8) : RdOnly (DecQ s) := fun v A B h ⟨y, e, p, h1, h2, h3⟩ => ⟨y, e, p, h1, h2, h3.congr h⟩
theorem decode_ok {M : Hp} (hk : ErrR M) (s : List UInt8) (hs : s.length ≤ 1099511627776) : CallsR Tryz.prog 21 [.string (bs s)] M (DecQ s) := by
  intro M0 hr he
  have hm := hr.marks
  replace hk := hk.congr he.symm
  have hDe : ∀ b a m, decE b s a m = ⟨b, 0, .cel 66, [.string (bs s), .int .i64 (a : Int), .int .i64 (m : Int)]⟩ := fun _ _ _ => rfl
  refine callsO gO2_ok Tryz.mix Tryz.pl21 Tryz.func21 rfl Tryz.ntmps21 Tryz.results21 rfl (by first | rfl | assumption) (Nat.le_of_ble_eq_true rfl) (by kernel_rfl) ?_
  simp only [push_cast, seval, reduceCtorEq]
  intro b2 hb2
  by_cases hlt : 1048576 < s.length
  · have d1 : (1048576 : Int) < (s.length : Int) := by omega
    simp only [push_cast, seval, reduceCtorEq, hb2, d1]
    refine ⟨[], List.nil_sublist _, trivial, rfl, fun _ => ⟨.mk false [] (.slice none 0 0) [], 2, 0, rfl, ?_, IvOk.text _ _ _ _⟩⟩
    unfold decD
    rw [if_pos hlt]
    simp only [Iv.it, Iv.its]
    rfl
  · have d1 : ¬ (1048576 : Int) < (s.length : Int) := by omega
    simp only [push_cast, seval, reduceCtorEq, hb2, d1]
    intro b hb
    have hrem : remE (⟨b, 0, .cel 66, [.string (bs s), .int .i64 0, .int .i64 0]⟩ :: ⟨b2, 0, .cel 29, [.bool false, .string ByteArray.empty, .slice none 0 0]⟩ :: M0) (decE b s 0 0).blk = ⟨b2, 0, .cel 29, [.bool false, .string ByteArray.empty, .slice none 0 0]⟩ :: M0 := by rw [hDe]; simp only [push_cast, seval, reduceCtorEq]
    refine CallsV.useM (m := decE b s 0 0) (Hf := []) (dwhole_ok hs) (by rw [hDe]; simp only [push_cast, seval, reduceCtorEq, hb]) rfl trivial ?_
    rw [hrem]
    have hW : decD s = match wholeD s with
      | .bad x p => (noI, x, p)
      | .ok x _ _ => (x, 0, 0) := by unfold decD; rw [if_neg hlt]; rfl
    rintro v N (⟨x, p, b', c0, c1, c2, n, c, hr, rfl, rfl⟩ | ⟨x, a', m', y, Nk, hr, rfl, rfl, rfl, ⟨hwk, hmk⟩, hyk⟩)
    · rw [hr] at hW
      dsimp only at hW
      refine ⟨⟨trivial, trivial⟩, rfl, fun hfr => ?_⟩
      unfold faE at hfr ⊢
      unfold faV
      obtain ⟨fb, -⟩ := hfr
      have fbM : fresh b' M0 := fb.2.2
      have fb' : ¬ b' = b2 ∧ ¬ b2 = b' := ⟨fb.1, fb.2.1⟩
      simp only [push_cast, seval, reduceCtorEq, fb']
      intro b5 hb5 b7 hb7
      have fL : freshN [⟨b5, 0, .cel 29, [.bool c0, .string c1, .slice c2 n c]⟩, ⟨b', 0, .cel 72, [.int .i64 (x : Int), .int .i64 (p : Int)]⟩, ⟨b2, 0, .cel 29, [.bool false, .string ByteArray.empty, .slice none 0 0]⟩] M0 := ⟨hb5.2.2.2.2, fbM, hb2, trivial⟩
      refine CallsV.useM (m := ⟨b7, 0, .cel 68, [.pointer none]⟩) (Hf := [errE]) (errAs_hit errE_R rfl) (by simp [findE]) rfl ?_ ?_
      · simp only [remE, if_true]
        exact ⟨⟨rfl, cellsAt_behind fL hk⟩, trivial⟩
      rintro v N ⟨rfl, rfl⟩
      refine ⟨⟨trivial, trivial⟩, rfl, fun hfr => ?_⟩
      clear hfr
      have h7 : ¬ b7 = b5 ∧ ¬ b5 = b7 ∧ ¬ b7 = b' ∧ ¬ b' = b7 ∧ ¬ b7 = b2 ∧ ¬ b2 = b7 := ⟨hb7.1, hb7.2.1, hb7.2.2.1, hb7.2.2.2.1, hb7.2.2.2.2.1, hb7.2.2.2.2.2.1⟩
      have h5 : ¬ b5 = b' ∧ ¬ b' = b5 ∧ ¬ b5 = b2 ∧ ¬ b2 = b5 := ⟨hb5.1, hb5.2.1, hb5.2.2.1, hb5.2.2.2.1⟩
      simp only [push_cast, seval, reduceCtorEq, fb', h7, h5]
      refine drawN gO2_ok Tryz.mix [(2, .pointer (some ⟨b2, 0, none⟩)), (7, .pointer (some ⟨b7, 0, none⟩))]
        (fun i => match i with
          | 0 => .agg #[.bool false, .string ByteArray.empty, .slice none 0 0]
          | 1 => .pointer (some ⟨b', 0, none⟩)
          | 2 => .pointer (some ⟨b', 0, none⟩)
          | 3 => .pointer (some ⟨b', 0, none⟩)
          | 4 => .int .i64 (x : Int)
          | 5 => .pointer (some ⟨b', 0, none⟩)
          | 6 => .pointer (some ⟨b', 0, none⟩)
          | 7 => .pointer (some ⟨b', 1, none⟩)
          | 8 => .int .i64 (p : Int)
          | 10 => .int .i64 (x : Int)
          | 11 => .int .i64 (p : Int)
          | _ => undef)
        (fun l => ⟨b7, 0, .cel 68, [.pointer (some ⟨b', 0, none⟩)]⟩ :: ⟨b5, 0, .cel 29, [.bool c0, .string c1, .slice c2 n c]⟩ :: ⟨b', 0, .cel 72, [.int .i64 (x : Int), .int .i64 (p : Int)]⟩ :: ⟨b2, 0, .cel 29, [.bool false, .string ByteArray.empty, .slice none 0 0]⟩ :: M0)
        (by kernel_rfl) (by kernel_rfl) ⟨rfl, rfl, trivial⟩ (by kernel_rfl) rfl ?_ ?_
      · intro i o ho l T' hli hdep hcl hT
        have hi := (Array.getElem?_eq_some_iff.1 ho).1
        replace hi : i < 12 := hi
        have t2 : getT T' 2 = some (.pointer (some ⟨b2, 0, none⟩)) := hT.1
        have t7 : getT T' 7 = some (.pointer (some ⟨b7, 0, none⟩)) := hT.2.1
        obtain rfl | rfl | rfl | rfl | rfl | rfl | rfl | rfl | rfl | rfl | rfl | rfl : i = 0 ∨ i = 1 ∨ i = 2 ∨ i = 3 ∨ i = 4 ∨ i = 5 ∨ i = 6 ∨ i = 7 ∨ i = 8 ∨ i = 9 ∨ i = 10 ∨ i = 11 := by omega
        all_goals simp only [List.getElem?_toArray, List.getElem?_cons_zero, List.getElem?_cons_succ, Option.some.injEq] at ho; subst ho
        · simp only [push_cast, seval, reduceCtorEq]
        · simp only [push_cast, seval, reduceCtorEq, t7]
        · have g := (hdep 1 (by kernel_rfl)).2 23 rfl
          simp only [push_cast, seval, reduceCtorEq, g]
        · have g := (hdep 2 (by kernel_rfl)).2 24 rfl
          simp only [push_cast, seval, reduceCtorEq, g]
        · have g := (hdep 3 (by kernel_rfl)).2 25 rfl
          simp only [push_cast, seval, reduceCtorEq, g, h7, h5, fb']
        · simp only [push_cast, seval, reduceCtorEq, t7]
        · have g := (hdep 5 (by kernel_rfl)).2 27 rfl
          simp only [push_cast, seval, reduceCtorEq, g]
        · have g := (hdep 6 (by kernel_rfl)).2 28 rfl
          simp only [push_cast, seval, reduceCtorEq, g]
        · have g := (hdep 7 (by kernel_rfl)).2 29 rfl
          simp only [push_cast, seval, reduceCtorEq, g, h7, h5, fb']
        · have g := (hdep 0 (by kernel_rfl)).2 22 rfl
          simp only [push_cast, seval, reduceCtorEq, g, t2, h7, h5, fb']
        · have g := (hdep 4 (by kernel_rfl)).2 26 rfl
          simp only [push_cast, seval, reduceCtorEq, g]
        · have g := (hdep 8 (by kernel_rfl)).2 30 rfl
          simp only [push_cast, seval, reduceCtorEq, g]
      intro l hl
      simp only [push_cast, seval, reduceCtorEq, dstsL, fb', h7, h5]
      refine ⟨[], List.nil_sublist _, trivial, rfl, fun _ => ⟨.mk false [] (.slice none 0 0) [], x, p, rfl, ?_, IvOk.text _ _ _ _⟩⟩
      rw [hW]
      simp only [Iv.it, Iv.its]
      rfl
    · rw [hr] at hW
      dsimp only at hW
      refine ⟨hwk, hmk, fun hfr => ?_⟩
      obtain ⟨yl, yb, yv, yks⟩ := y
      obtain ⟨py, cy, hsy, -⟩ := id hyk.li
      replace hsy : yv = .slice py yks.length cy := hsy
      subst hsy
      have hyv : (Iv.mk yl yb (.slice py yks.length cy) yks).v = .agg #[.bool yl, .string (bs yb), .slice py yks.length cy] := rfl
      simp only [push_cast, seval, reduceCtorEq, hyv]
      intro b5 hb5 b7 hb7
      refine CallsV.useM (m := ⟨b7, 0, .cel 68, [.pointer none]⟩) (Hf := []) errAs_nil (by simp [findE]) rfl trivial ?_
      rintro v N' ⟨rfl, rfl⟩
      refine ⟨⟨trivial, trivial⟩, rfl, fun _ => ?_⟩
      have f2 : fresh b2 N := (freshN_sym hfr).1
      have f5 := (fresh_app_iff.1 hb5).2
      have f7 := (fresh_app_iff.1 hb7.2.2).2
      have h7 : ¬ b7 = b5 ∧ ¬ b5 = b7 ∧ ¬ b7 = b2 ∧ ¬ b2 = b7 := ⟨hb7.1, hb7.2.1, f7.1, f7.2.1⟩
      have h5 : ¬ b5 = b2 ∧ ¬ b2 = b5 := ⟨f5.1, f5.2.1⟩
      have e1 : ∀ M : Hp, findE (N ++ M) b2 = findE M b2 := fun M => findE_behind1 f2
      have e2 : ∀ (M : Hp) (cs : List Value), updE (N ++ M) b2 cs = N ++ updE M b2 cs := fun M cs => updE_behind f2
      have e3 : ∀ cs, dropM (N ++ ⟨b2, 0, .cel 29, cs⟩ :: M0) = N ++ ⟨b2, 0, .cel 29, cs⟩ :: M0 := fun cs => dropM_eq (by rw [marks_append, hmk]; simp [marksOf, hm])
      simp only [push_cast, seval, reduceCtorEq, h7, h5, e1, e2, e3]
      refine ⟨N, ((List.sublist_append_left _ _).cons _).cons _, hwk, hmk, fun hf => ⟨_, 0, 0, rfl, hW, hyk.ext (Ext.app hmk hm)⟩⟩
end Go.Proofs.YtolmipnaheifcaaGreatDoor
set_option linter.unusedSimpArgs false
set_option linter.unusedVariables false
namespace Go.Ev
def roE (e : Ent) : Ent := { e with kind := .ro }
theorem Ent.cel_ro {w : World} {b : Nat} {t : TypeId} {cs : List Value} (h : (⟨b, 0, .cel t, cs⟩ : Ent).holds w) : (⟨b, 0, .ro, cs⟩ : Ent).holds w := by
  obtain ⟨-, h⟩ := h
  refine ⟨(Array.getElem?_eq_some_iff.1 h).1, fun k v hk => ?_⟩
  dsimp only at hk h ⊢
  simp only [World.cell?, h, Option.isSome_none, Bool.false_eq_true, if_false]
  simpa using hk
theorem marks_nobj : ∀ {A : Hp}, (∀ e ∈ A, ∃ t, e.kind = .cel t) → marksOf A = []
  | [], _ => rfl
  | x :: r, h => by
    obtain ⟨t, ht⟩ := h x (by simp)
    simp only [marksOf, ht]
    exact marks_nobj fun e he => h e (by simp [he])
theorem marks_ro2 : ∀ (A : Hp), marksOf (A.map roE) = []
  | [] => rfl
  | x :: r => by simp only [List.map_cons, roE, marksOf]; exact marks_ro2 r
theorem Sat.toRo {w0 w : World} {mu : Nat → Prop} {A H : Hp} (hA : ∀ e ∈ A, e.off = 0 ∧ ∃ t, e.kind = .cel t) (hs : Sat w0 mu (A ++ H) w) : Sat w0 mu (A.map roE ++ H) w := by
  obtain ⟨p1, p2, p3⟩ := List.pairwise_append.1 hs.apart
  refine ⟨hs.os, hs.tape, hs.output, hs.size, hs.old, fun e he => ?_, fun e he hw => ?_, List.pairwise_append.2 ⟨?_, p2, fun x hx y hy hw => ?_⟩⟩
  · rcases List.mem_append.1 he with he | he
    · obtain ⟨a, ha, rfl⟩ := List.mem_map.1 he
      have := hs.ents a (List.mem_append_left _ ha)
      obtain ⟨h0, t, ht⟩ := hA a ha
      obtain ⟨b, o, k, cs⟩ := a
      dsimp only at h0 ht
      subst h0 ht
      exact Ent.cel_ro this
    · exact hs.ents e (List.mem_append_right _ he)
  · rcases List.mem_append.1 he with he | he
    · obtain ⟨a, ha, rfl⟩ := List.mem_map.1 he
      exact absurd hw id
    · exact hs.own e (List.mem_append_right _ he) hw
  · refine List.pairwise_iff_forall_sublist.2 fun {a b} hab hw => ?_
    obtain ⟨x, _, rfl⟩ := List.mem_map.1 (hab.subset (by simp : a ∈ [a, b]))
    obtain ⟨y, _, rfl⟩ := List.mem_map.1 (hab.subset (by simp : b ∈ [_, b]))
    rcases hw with hw | hw <;> exact hw.elim
  · obtain ⟨a, ha, rfl⟩ := List.mem_map.1 hx
    obtain ⟨h0, t, ht⟩ := hA a ha
    exact p3 a ha y hy (.inl (by unfold Ent.wr; rw [ht]; trivial))
theorem CallsV.toRo {P : Program} {g : FuncId} {args : List Value} {A H : Hp} {K : Value → Hp → Prop} (hA : ∀ e ∈ A, e.off = 0 ∧ ∃ t, e.kind = .cel t) (hc : CallsV P g args (A.map roE ++ H) K) : CallsV P g args (A ++ H) K :=
  ⟨hc.1, fun w0 mu w hs => by
    have := hc.2 w0 mu w (hs.toRo hA)
    rwa [marks_append, marks_ro2, ← marks_nobj (A := A) (fun e he => (hA e he).2), ← marks_append] at this⟩
theorem IterV.toRo {P : Program} {gf : FuncId} {caps : List Value} {A Hc : Hp} {vs : List (List Value)} (hA : ∀ e ∈ A, e.off = 0 ∧ ∃ t, e.kind = .cel t) (h : IterV P gf caps (A.map roE ++ Hc) vs) : IterV P gf caps (A ++ Hc) vs :=
  ⟨h.1, fun X Ho I St l x0 hro hmk h0 hy => by
    have := h.2 X Ho I St l x0 hro hmk h0 hy
    rw [List.append_assoc] at this ⊢
    exact CallsV.toRo hA this⟩
theorem WpV.dupN {P : Program} {r : Option Nat} {n : Nat} {c : Code} {K : Exit → Tm → Hp → Prop} {T : Tm} {L M : Hp} (hr : ∀ e ∈ M, e.kind = .ro) (h : WpV P r n c K T (M ++ (L ++ M))) : WpV P r n c K T (L ++ M) := by
  have hk : ∀ e ∈ M, ¬ e.wr := fun e he hw => by unfold Ent.wr at hw; rw [hr e he] at hw; exact hw
  have hmM : marksOf M = [] := by
    clear h hk
    induction M with
    | nil => rfl
    | cons x r ih => simp only [marksOf, hr x (by simp)]; exact ih fun e he => hr e (by simp [he])
  intro w0 mu a w hro ht hs hd
  obtain ⟨p1, p2, p3⟩ := List.pairwise_append.1 hs.apart
  refine h w0 mu a w hro ht ⟨hs.os, hs.tape, hs.output, hs.size, hs.old, fun e he => ?_, fun e he hw => ?_, List.pairwise_append.2 ⟨p2, hs.apart, fun x hx y hy hw => ?_⟩⟩ (by rw [hd]; unfold defersOf; rw [marks_append M, hmM]; rfl)
  · rcases List.mem_append.1 he with he | he
    · exact hs.ents e (List.mem_append_right L he)
    · exact hs.ents e he
  · rcases List.mem_append.1 he with he | he
    · exact absurd hw (hk e he)
    · exact hs.own e he hw
  · rcases List.mem_append.1 hy with hy | hy
    · exact (p3 y hy x hx (hw.symm)).symm
    · exact absurd hw (fun hw => hw.elim (hk x hx) (hk y hy))
def mkD (D : Nat) : Ent := ⟨D, 0, .obj (.deferred (some [])), []⟩
theorem mkD_wr (Ds : List Nat) : ∀ e ∈ Ds.map mkD, e.wr := fun e he => by obtain ⟨D, -, rfl⟩ := List.mem_map.1 he; trivial
theorem mkD_marks : ∀ Ds : List Nat, marksOf (Ds.map mkD) = Ds
  | [] => rfl
  | D :: r => by simp only [List.map_cons, mkD, marksOf]; rw [mkD_marks r]
theorem dropM_app : ∀ (A B : Hp), dropM (A ++ B) = dropM A ++ dropM B
  | [], B => rfl
  | e :: r, B => by
    rw [List.cons_append, dropM, dropM, dropM_app r B]
    split <;> rfl
theorem dropM_mkD : ∀ Ds : List Nat, dropM (Ds.map mkD) = []
  | [] => rfl
  | D :: r => by rw [List.map_cons, dropM, dropM_mkD r]; rfl
end Go.Ev
set_option linter.unusedSimpArgs false
set_option linter.unusedVariables false
namespace Go.Ev
def allA (x : Iv) (d : Nat) : List (List Value) := (allV x d).map fun p => [.int .i64 (p.1 : Nat), p.2.v]
theorem allV_head (x : Iv) (d : Nat) : allV x d = (d, x) :: (if 16 < d then [] else allVs x.kids (d + 1)) := by
  cases x; rw [allV]; rfl
theorem allVs_take (ks : List Iv) (d : Nat) {i : Nat} {k : Iv} (h : ks[i]? = some k) : allVs (ks.take (i + 1)) d = allVs (ks.take i) d ++ allV k d := by
  induction ks generalizing i with
  | nil => simp at h
  | cons y r ih =>
    cases i with
    | zero => simp only [List.getElem?_cons_zero, Option.some.injEq] at h; subst h; simp [allVs]
    | succ i =>
      rw [List.getElem?_cons_succ] at h
      rw [List.take_succ_cons, allVs, ih h, List.take_succ_cons, allVs, List.append_assoc]
theorem allVs_pre (ks : List Iv) (d i : Nat) : ∃ r, allVs ks d = allVs (ks.take i) d ++ r := by
  induction ks generalizing i with
  | nil => exact ⟨[], by simp [allVs]⟩
  | cons y r ih =>
    cases i with
    | zero => exact ⟨_, by rw [List.take_zero]; simp only [allVs]; rfl⟩
    | succ i =>
      obtain ⟨q, hq⟩ := ih i
      exact ⟨q, by rw [allVs, List.take_succ_cons, allVs, hq, List.append_assoc]⟩
theorem allVs_mem {ks : List Iv} {d : Nat} {q : Nat × Iv} : q ∈ allVs ks d → ∃ k ∈ ks, q ∈ allV k d := by
  induction ks with
  | nil => intro h; simp [allVs] at h
  | cons y r ih =>
    intro h
    rw [allVs, List.mem_append] at h
    rcases h with h | h
    · exact ⟨y, by simp, h⟩
    · obtain ⟨k, hk, hq⟩ := ih h; exact ⟨k, by simp [hk], hq⟩
theorem allV_ok {M : Hp} (x : Iv) : ∀ {d : Nat}, IvOk M x → ∀ q ∈ allV x d, IvOk M q.2 := by
  induction x using Iv.ind with
  | h x ih =>
    intro d hx q hq
    rw [allV_head] at hq
    rcases List.mem_cons.1 hq with rfl | hq
    · exact hx
    · split at hq
      · cases hq
      · obtain ⟨k, hk, hq⟩ := allVs_mem hq
        exact ih k hk (hx.kid k hk) q hq
theorem IvOk.one {M : Hp} {x : Iv} (h : IvOk M x) : oneC x.sv = true := by obtain ⟨p, c, he, -⟩ := h.li; rw [he]; rfl
theorem all_at {x k : Iv} {d i j : Nat} {args : List Value} (hd : ¬ 16 < d) (hi : x.kids[i]? = some k) (hj : (allA k (d + 1))[j]? = some args) : (allA x d)[1 + (allVs (x.kids.take i) (d + 1)).length + j]? = some args := by
  have hjl : j < (allV k (d + 1)).length := by
    have := (List.getElem?_eq_some_iff.1 hj).1
    unfold allA at this
    rwa [List.length_map] at this
  obtain ⟨r, hr⟩ := allVs_pre x.kids (d + 1) (i + 1)
  rw [allVs_take x.kids (d + 1) hi] at hr
  unfold allA at hj ⊢
  rw [allV_head, if_neg hd, List.map_cons, show 1 + (allVs (x.kids.take i) (d + 1)).length + j = ((allVs (x.kids.take i) (d + 1)).length + j) + 1 by omega, List.getElem?_cons_succ, hr, List.append_assoc, List.map_append, List.getElem?_append_right (by rw [List.length_map]; omega), List.length_map, Nat.add_sub_cancel_left, List.map_append, List.getElem?_append_left (by rw [List.length_map]; exact hjl)]
  exact hj
theorem all_len {x : Iv} {d : Nat} (hd : ¬ 16 < d) : (allA x d).length = 1 + (allVs x.kids (d + 1)).length := by
  unfold allA
  rw [List.length_map, allV_head, if_neg hd, List.length_cons]; omega
theorem find_ds {q : Nat} {e : Ent} {base X : Hp} (h : findE base q = some e) : ∀ {Ds : List Nat}, freshN (Ds.map mkD) base → findE (Ds.map mkD ++ (base ++ X)) q = some e
  | [], _ => by rw [List.map_nil, List.nil_append]; exact findE_appT h
  | D :: r, hf => by
    have h1 : ¬ q = D := (fresh_findS (b := D) hf.1 h).2
    rw [List.map_cons, List.cons_append, findE, if_neg (show ¬ q = (mkD D).blk from h1)]
    exact find_ds h hf.2
end Go.Ev
namespace Go.Proofs.YtolmipnaheifcaaGreatDoor
open Go Go.Ev Go.Proofs
set_option maxRecDepth 100000
set_option maxHeartbeats 4000000
theorem rall_ok (x : Iv) (d : Int) (hs : oneC x.sv = true) : CallsV Tryz.prog 31 [x.v, .int .i64 d] [] (fun v N => ∃ b c, v = .func (.func 54) #[] #[.pointer (some ⟨c, 0, none⟩), .pointer (some ⟨b, 0, none⟩)] ∧ N = [⟨c, 0, .cel 3, [.int .i64 d]⟩, ⟨b, 0, .cel 29, x.cells⟩] ∧ ¬ c = b ∧ ¬ b = c) := by
  have xall : x.cells.all oneC = true := Iv.all1 hs
  have xv : x.v.cells.toList = x.cells := rfl
  refine callsO gN3_ok Tryz.mix Tryz.pl31 Tryz.func31 rfl Tryz.ntmps31 Tryz.results31 rfl (by first | rfl | assumption) (Nat.le_of_ble_eq_true rfl) (by kernel_rfl) ?_
  simp only [push_cast, seval, reduceCtorEq, xv]
  intro b c hc
  try simp only [push_cast, seval, reduceCtorEq, hc]
  exact ⟨[_, _], List.Sublist.refl _, b, c, rfl, rfl, hc.1, hc.2⟩
theorem rall1_ok (x : Iv) : ∀ (d : Nat) (Hc : Hp) (b c : Nat) (kb kc : Kind), (∀ e ∈ Hc, e.kind = .ro) → findE Hc b = some ⟨b, 0, kb, x.cells⟩ → findE Hc c = some ⟨c, 0, kc, [.int .i64 (d : Nat)]⟩ → IvOk Hc x → d ≤ 17 →
    IterV Tryz.prog 54 [.pointer (some ⟨c, 0, none⟩), .pointer (some ⟨b, 0, none⟩)] Hc (allA x d) := by
  induction x using Iv.ind with
  | h x ih =>
  intro d Hc b c kb kc hroc hb hc hx hd
  have hmc : marksOf Hc = [] := marks_ro hroc
  refine ⟨enterO Tryz.func54 rfl rfl, fun X Ho I St l x0 hro hmk h0 hy => ?_⟩
  have hmarks : ∀ x, marksOf (Hc ++ Ho x) = [] := fun x => by rw [marks_append, hmc, hmk]; rfl
  have hm0 := hmarks x0
  have hb' := fun z => findE_appT (B := Ho z) hb
  have hc' := fun z => findE_appT (B := Ho z) hc
  have hhead := allV_head x d
  obtain ⟨vs, hvs⟩ : ∃ vs, vs = allA x d := ⟨_, rfl⟩
  have hv0 : vs[0]? = some [.int .i64 (d : Nat), x.v] := by rw [hvs]; unfold allA; rw [hhead]; rfl
  rw [← hvs] at hy ⊢
  have yl : ∀ (j : Nat) (z : X) (args : List Value) (e : Ent) (A : Hp) (K' : Value → Hp → Prop), vs[j]? = some args → I j z → marksOf [e] = [] → (∀ x', I (j + 1) x' → K' (.bool true) (A ++ (Ho x' ++ [e]))) → (∀ x', St x' → K' (.bool false) (A ++ (Ho x' ++ [e]))) → YieldV Tryz.prog l args (e :: (A ++ Ho z)) K' := fun j z args e A K' hj hi hme ht hf => by
    refine (hy j z args hj hi).frame2 ?_ hme ?_
    · rintro v H' (⟨rfl, x', _, rfl⟩ | ⟨rfl, x', _, rfl⟩) <;> exact hro z x'
    · rintro v H' (⟨rfl, x', h, rfl⟩ | ⟨rfl, x', h, rfl⟩)
      · exact ht x' h
      · exact hf x' h
  obtain ⟨p, cc, hsv, -⟩ := id hx.li
  have c1l : List.take 1 (List.drop 2 x.cells) = [.slice p x.kids.length cc] := by rw [Iv.drop2, hsv]
  have c3l : List.take 3 x.cells = x.cells := List.take_of_length_le (Nat.le_of_eq rfl)
  have yf : ∀ (x' : X) (e : Ent), marksOf [e] = [] → (I vs.length x' ∨ St x') → ∃ H'_1, List.Sublist H'_1 (dropM (Hc ++ (Ho x' ++ [e]))) ∧ ∃ x, (I vs.length x ∨ St x) ∧ H'_1 = Ho x := fun x' e hm hst => by
    refine ⟨Ho x', ?_, x', hst, rfl⟩
    rw [← List.append_assoc, dropM_eq (by rw [marks_append, hmarks, hm]; rfl)]
    exact (List.sublist_append_right _ _).trans (List.sublist_append_left _ _)
  refine callsO gN3_ok Tryz.mix Tryz.pl54 Tryz.func54 rfl Tryz.ntmps54 Tryz.results54 rfl (by first | rfl | assumption) (Nat.le_of_ble_eq_true rfl) (by kernel_rfl) ?_
  simp only [push_cast, seval, reduceCtorEq]
  intro b3 hb3
  have d1 := (fresh_findS hb3 (hb' x0)).2
  have d2 := (fresh_findS hb3 (hc' x0)).2
  try simp only [push_cast, seval, reduceCtorEq, d1, d2, hb', hc', Iv.len, c3l]
  refine yl 0 x0 _ ⟨b3, 0, .cel 98, [.func (.yield l) #[] #[]]⟩ Hc _ hv0 h0 rfl (fun x' hx' => ?_) (fun x' hx' => ?_)
  · have hb2 := findE_appT (B := Ho x' ++ [⟨b3, 0, .cel 98, [.func (.yield l) #[] #[]]⟩]) hb
    have hc2 := findE_appT (B := Ho x' ++ [⟨b3, 0, .cel 98, [.func (.yield l) #[] #[]]⟩]) hc
    by_cases h16 : 16 < d
    · have k1 : (16 : Int) < (d : Int) := by omega
      simp only [push_cast, seval, reduceCtorEq, hb2, hc2, k1]
      exact yf x' _ rfl (.inl (by have hl : vs.length = 1 := by { rw [hvs]; unfold allA; rw [hhead, if_pos h16]; rfl }
                                  rw [hl]; exact hx'))
    · have k1 : ¬ (16 : Int) < (d : Int) := by omega
      simp only [push_cast, seval, reduceCtorEq, hb2, hc2, k1, Iv.len, c1l]
      obtain ⟨B3, hB3⟩ : ∃ B : Ent, B = ⟨b3, 0, .cel 98, [.func (.yield l) #[] #[]]⟩ := ⟨_, rfl⟩
      rw [← hB3]
      have mB3 : marksOf [B3] = [] := by rw [hB3]; rfl
      have f3 : fresh b3 Hc := (fresh_app_iff.1 hb3).1
      refine WpV.perm (H' := B3 :: (Hc ++ Ho x')) (by rw [← List.append_assoc]; exact List.perm_append_singleton ..) (by rw [← List.append_assoc, marks_append _ [B3], mB3, List.append_nil, hmarks, show B3 :: (Hc ++ Ho x') = [B3] ++ (Hc ++ Ho x') from rfl, marks_append, mB3, hmarks]; rfl) ?_
      have hF3 : findE (B3 :: Hc) b3 = some B3 := by rw [hB3]; simp [findE]
      have hFb : findE (B3 :: Hc) b = some ⟨b, 0, kb, x.cells⟩ := by rw [hB3, findE, if_neg d1]; exact hb
      have hFc : findE (B3 :: Hc) c = some ⟨c, 0, kc, [.int .i64 (d : Nat)]⟩ := by rw [hB3, findE, if_neg d2]; exact hc
      refine loopO gN3_ok (pl := Tryz.pl54) Tryz.mix (X := (Nat × X) × List Nat)
        (fun s => ([(1, .pointer (some ⟨c, 0, none⟩)), (2, .pointer (some ⟨b, 0, none⟩)), (3, .pointer (some ⟨b3, 0, none⟩)), (18, .slice p x.kids.length cc), (19, .int .i64 x.kids.length), (20, .int .i64 s.1.1)], s.2.map mkD ++ ((B3 :: Hc) ++ Ho s.1.2)))
        (fun s => s.1.1 ≤ x.kids.length ∧ I (1 + (allVs (x.kids.take s.1.1) (d + 1)).length) s.1.2 ∧ freshN (s.2.map mkD) (B3 :: Hc)) (fun s => x.kids.length - s.1.1) ((0, x'), []) ?_ ?_ (by kernel_rfl) ?_
      · exact ⟨Nat.zero_le _, by simpa [allVs] using hx', trivial⟩
      · simp only [push_cast, seval, reduceCtorEq]
        try exact subH_self _
      · rintro ⟨⟨i, z⟩, Ds⟩ ⟨hi, hI, hfD⟩
        dsimp only at hi hI hfD ⊢
        have hG3 : findE (Ds.map mkD ++ B3 :: (Hc ++ Ho z)) b3 = some _ := find_ds (X := Ho z) hF3 hfD
        have hGb : findE (Ds.map mkD ++ B3 :: (Hc ++ Ho z)) b = some _ := find_ds (X := Ho z) hFb hfD
        have hGc : findE (Ds.map mkD ++ B3 :: (Hc ++ Ho z)) c = some _ := find_ds (X := Ho z) hFc hfD
        have hmB : marksOf (B3 :: Hc ++ Ho z) = [] := by rw [List.cons_append, show B3 :: (Hc ++ Ho z) = [B3] ++ (Hc ++ Ho z) from rfl, marks_append, mB3, hmarks]; rfl
        rcases Nat.lt_or_ge i x.kids.length with hlt | hge
        · obtain ⟨k, hk⟩ : ∃ k, x.kids[i]? = some k := ⟨x.kids[i], List.getElem?_eq_getElem hlt⟩
          have hkm := List.mem_of_getElem? hk
          obtain ⟨p', cc', hsv', hla⟩ := hx.li.openC Iv.len (by decide)
          rw [hsv] at hsv'
          obtain ⟨rfl, rfl⟩ : p = p' ∧ cc = cc' := by injection hsv' with h1 h2 h3; exact ⟨h1, h3⟩
          rcases hla with hl0 | ⟨bb, f, dd, kd, cs, rfl, he, hat⟩
          · rw [hl0] at hk; simp at hk
          obtain ⟨a1, a2⟩ := hat i k hk
          have d3 := (fresh_findS f3 he).2
          have hFk : findE (B3 :: Hc) bb = some ⟨bb, f, kd, cs⟩ := by rw [hB3, findE, if_neg d3]; exact he
          have hGk : findE (Ds.map mkD ++ B3 :: (Hc ++ Ho z)) bb = some _ := find_ds (X := Ho z) hFk hfD
          have kok := hx.kid k hkm
          have k1one : oneC k.sv = true := by obtain ⟨p, c, he, -⟩ := kok.li; rw [he]; rfl
          have kall : k.cells.all oneC = true := Iv.all1 k1one
          have k3 : List.take 3 k.cells = k.cells := List.take_of_length_le (Nat.le_of_eq rfl)
          have i1 : (i : Int) < (x.kids.length : Int) := by omega
          simp only [push_cast, seval, reduceCtorEq, i1, hlt, hGk, a1, a2, kall, Iv.len, k3]
          intro b5 hb5
          have e5 := (fresh_findS hb5 hGc).2
          simp only [push_cast, seval, reduceCtorEq, e5, hGc, Iv.len, k3, wrap_i64' (show -9223372036854775808 ≤ (d : Int) + 1 ∧ (d : Int) + 1 ≤ 9223372036854775807 by omega)]
          rw [show (d : Int) + 1 = ((d + 1 : Nat) : Int) from rfl]
          refine (rall_ok k ((d + 1 : Nat) : Int) k1one).use trivial ?_
          rintro _ _ ⟨b', c', rfl, rfl, hne, hne2⟩
          refine ⟨⟨trivial, trivial, trivial⟩, rfl, fun hfn => ?_⟩
          simp only [push_cast, seval, reduceCtorEq]
          obtain ⟨C, hC⟩ : ∃ C : Ent, C = ⟨c', 0, .cel 3, [.int .i64 ((d + 1 : Nat) : Int)]⟩ := ⟨_, rfl⟩
          obtain ⟨Bk, hBk⟩ : ∃ C : Ent, C = ⟨b', 0, .cel 29, k.cells⟩ := ⟨_, rfl⟩
          obtain ⟨E5, hE5⟩ : ∃ C : Ent, C = ⟨b5, 0, .cel 29, k.cells⟩ := ⟨_, rfl⟩
          rw [← hE5] at hfn
          obtain ⟨fc', fb', -⟩ := hfn
          have gc := fresh_app fc'.2.2
          have gb := fresh_app fb'.2.2
          have hc'H : fresh c' Hc := (fresh_app_iff.1 gc.2.2).1
          have hb'H : fresh b' Hc := (fresh_app_iff.1 gb.2.2).1
          rw [show (⟨c', 0, .cel 3, [.int .i64 ((d : Int) + 1)]⟩ : Ent) = C from hC.symm, ← hBk, ← hE5]
          have mB : ∀ X : Hp, marksOf (B3 :: X) = marksOf X := fun X => by rw [hB3]; rfl
          have mC : ∀ X : Hp, marksOf (C :: X) = marksOf X := fun X => by rw [hC]; rfl
          have mK : ∀ X : Hp, marksOf (Bk :: X) = marksOf X := fun X => by rw [hBk]; rfl
          have mN : marksOf ([] : Hp) = [] := rfl
          have m5 : ∀ X : Hp, marksOf (E5 :: X) = marksOf X := fun X => by rw [hE5]; rfl
          refine WpV.perm (H' := ([C, Bk, E5] ++ (Ds.map mkD ++ (B3 :: Ho z))) ++ Hc) ?_ ?_ ?_
          · classical
            refine List.perm_iff_count.2 fun a => ?_
            simp only [List.count_append, List.count_cons, List.count_nil]
            omega
          · simp [marks_append, mB, mC, mK, m5, hmc, hmk, mkD_marks, mN]
          refine WpV.dupN (L := [C, Bk, E5] ++ (Ds.map mkD ++ (B3 :: Ho z))) hroc ?_
          refine WpV.perm (H' := ([C, Bk] ++ Hc) ++ ((Ds.map mkD ++ (B3 :: (Hc ++ Ho z))) ++ [E5])) ?_ ?_ ?_
          · classical
            refine List.perm_iff_count.2 fun a => ?_
            simp only [List.count_append, List.count_cons, List.count_nil]
            omega
          · simp [marks_append, mB, mC, mK, m5, hmc, hmk, mkD_marks, mN]
          have hit' : IterV Tryz.prog 54 [.pointer (some ⟨c', 0, none⟩), .pointer (some ⟨b', 0, none⟩)] ([C, Bk] ++ Hc) (allA k (d + 1)) := by
            refine IterV.toRo (A := [C, Bk]) ?_ ?_
            · intro e he
              rcases List.mem_cons.1 he with rfl | he
              · rw [hC]; exact ⟨rfl, _, rfl⟩
              · rw [List.mem_singleton.1 he, hBk]; exact ⟨rfl, _, rfl⟩
            have x1 : Ext Hc (roE Bk :: Hc) := Ext.cons hmc (by rw [hBk]; rfl) (by rw [hBk]; exact hb'H)
            have x2 : Ext (roE Bk :: Hc) (roE C :: roE Bk :: Hc) := Ext.cons (by rw [hBk]; exact hmc) (by rw [hC]; rfl) (by rw [hC, hBk]; exact ⟨hne, hne2, hc'H⟩)
            refine ih k hkm (d + 1) ([C, Bk].map roE ++ Hc) b' c' .ro .ro ?_ ?_ ?_ ((kok.ext x1).ext x2) (by omega)
            · intro e he
              rcases List.mem_append.1 he with he | he
              · obtain ⟨y, -, rfl⟩ := List.mem_map.1 he; rfl
              · exact hroc e he
            · rw [hC, hBk]; simp [findE, roE, hne2]
            · rw [hC, hBk]; simp [findE, roE]
          have hlk : (allA k (d + 1)).length = (allV k (d + 1)).length := by unfold allA; rw [List.length_map]
          have htk := allVs_take x.kids (d + 1) hk
          refine rangeO gN3_ok (pl := Tryz.pl54) Tryz.mix (Hc := [C, Bk] ++ Hc) (Hm := Ds.map mkD) hit' rfl
            (X := X) (fun z => B3 :: (Hc ++ Ho z)) (fun j z => I (1 + (allVs (x.kids.take i) (d + 1)).length + j) z) (fun c z => c = .ret ∧ St z) z
            ?_ ?_ ?_ ?_ (mkD_wr Ds) (fun z => ?_) (fun z y e he => ?_) ?_ (by kernel_rfl) (by kernel_rfl) ?_ ?_ ?_ ?_
          · exact hI
          · rw [show [C, Bk] ++ Hc ++ (Ds.map mkD ++ B3 :: (Hc ++ Ho z) ++ [E5]) = ([C, Bk] ++ Hc ++ (Ds.map mkD ++ B3 :: (Hc ++ Ho z))) ++ [E5] by simp only [List.append_assoc]]
            exact subH_frontN _ _
          · simp [marks_append, mB, mC, mK, m5, hmc, hmk, mkD_marks, mN]
          · simp [marks_append, mC, mK, hmc]
          · simp [marks_append, mB, hmc, hmk]
          · rcases List.mem_cons.1 he with rfl | he
            · exact .inr (by simp)
            rcases List.mem_append.1 he with he | he
            · exact .inr (by simp [he])
            · rcases hro z y e he with h | h
              · exact .inl h
              · exact .inr (by simp [h])
          · intro args ha
            obtain ⟨y, -, rfl⟩ := List.mem_map.1 ha
            rfl
          · rintro c' z' ⟨rfl, -⟩
            kernel_rfl
          · rintro lo j z1 args hj hI1
            have hat2 := all_at h16 hk hj
            rw [← hvs] at hat2
            obtain ⟨q, hq, rfl⟩ := Option.map_eq_some_iff.1 ((List.getElem?_map ..).symm.trans hj)
            subst hB3
            have qok := allV_ok k kok q (List.mem_of_getElem? hq)
            have qall : q.2.cells.all oneC = true := Iv.all1 qok.one
            have q3 : List.take 3 q.2.cells = q.2.cells := List.take_of_length_le (Nat.le_of_eq rfl)
            have qv : q.2.v.cells.toList = q.2.cells := rfl
            have hf3' : findE ((⟨b3, 0, .cel 98, [.func (.yield l) #[] #[]]⟩ : Ent) :: (Hc ++ Ho z1)) b3 = some ⟨b3, 0, .cel 98, [.func (.yield l) #[] #[]]⟩ := by simp [findE]
            have hmB1 : marksOf ((⟨b3, 0, .cel 98, [.func (.yield l) #[] #[]]⟩ : Ent) :: (Hc ++ Ho z1)) = [] := hmarks z1
            generalize hRK : (roundK _ _ _ j : Exit → Tm → Hp → Prop) = RK
            show oC _ _ _ _ _ _ _ (parT 36 _ _ [.int .i64 (q.1 : Nat), q.2.v]) _
            simp only [push_cast, seval, reduceCtorEq, hmB1, qall, q3, Iv.len, qv]
            intro b7 hb7
            have e7 := hb7.2.1
            simp only [push_cast, seval, reduceCtorEq, e7, q3, Iv.len]
            refine ⟨hmarks z1, roSub_of fun e he => .inr (List.mem_cons_of_mem _ he), ?_⟩
            refine yl _ z1 _ ⟨b7, 0, .cel 29, q.2.cells⟩ (_ :: Hc) _ hat2 hI1 rfl (fun x' hx' => ?_) (fun x' hx' => ?_)
            · simp only [push_cast, seval, reduceCtorEq]
              rw [← hRK]
              exact ⟨x', hx', by rw [← List.append_assoc]; exact subH_frontN [_] (_ :: (Hc ++ Ho x'))⟩
            · simp only [push_cast, seval, reduceCtorEq]
              rw [← hRK]
              exact ⟨x', ⟨rfl, hx'⟩, by rw [← List.append_assoc]; exact subH_frontN [_] (_ :: (Hc ++ Ho x'))⟩
          · rintro D z1 hfD1 hI1
            have hI2 : I (1 + (allVs (x.kids.take (i + 1)) (d + 1)).length) z1 := by
              rw [htk, List.length_append, ← Nat.add_assoc, ← hlk]; exact hI1
            have hD2 : fresh D (B3 :: Hc) := by
              have h1 := fresh_app hfD1
              rw [show B3 :: (Hc ++ Ho z1) = (B3 :: Hc) ++ Ho z1 from rfl] at h1
              exact (fresh_app_iff.1 h1).1
            have hxl := hx.len
            simp only [push_cast, seval, reduceCtorEq, wrap_i64' (show -9223372036854775808 ≤ (i : Int) + 1 ∧ (i : Int) + 1 ≤ 9223372036854775807 by omega)]
            exact ⟨((i + 1, z1), D :: Ds), ⟨hlt, hI2, hD2, hfD⟩, by dsimp only; omega, rfl, subH_self _, rfl⟩
          · rintro D cd z1 hfD1 ⟨rfl, hst⟩
            simp only [push_cast, seval, reduceCtorEq]
            refine ⟨Ho z1, ?_, z1, .inr hst, rfl⟩
            rw [dropM_app, dropM_mkD, List.nil_append, dropM_eq (by rw [mB]; exact hmarks z1), show B3 :: (Hc ++ Ho z1) = (B3 :: Hc) ++ Ho z1 from rfl]
            exact List.sublist_append_right _ _
        · obtain rfl : i = x.kids.length := by omega
          simp only [push_cast, seval, reduceCtorEq, Int.lt_irrefl]
          refine ⟨Ho z, ?_, z, .inl ?_, rfl⟩
          · rw [dropM_app, dropM_mkD, List.nil_append, show B3 :: (Hc ++ Ho z) = (B3 :: Hc) ++ Ho z from rfl, dropM_eq hmB]
            exact List.sublist_append_right _ _
          · rw [hvs, all_len h16]
            rw [List.take_length] at hI
            exact hI
  · simp only [push_cast, seval, reduceCtorEq]
    exact yf x' _ rfl (.inr hx')
end Go.Proofs.YtolmipnaheifcaaGreatDoor
set_option linter.unusedSimpArgs false
set_option linter.unusedVariables false
namespace Go.Ev
def okN (j : Nat) (p : Nat × Iv) : Bool := decide (j + 1 ≤ 5000) && (decide (p.1 ≤ 16) && wfI p.2.it)
theorem wfI_it (y : Iv) : wfI y.it = if y.list then y.bytes.isEmpty else y.kids.isEmpty := by
  unfold wfI
  rw [Iv.it_list, Iv.it_bytes, Iv.it_kids]
  cases y.list <;> simp [List.isEmpty_iff]
theorem rightI_it (x : Iv) : rightI x.it = (decide ((allV x 1).length ≤ 5000) && (allV x 1).all fun p => decide (p.1 ≤ 16) && wfI p.2.it) := by
  unfold rightI
  rw [← allV_it, List.length_map, List.all_map]
  rfl
theorem right_all {x : Iv} (h : ∀ j p, (allV x 1)[j]? = some p → okN j p = true) : rightI x.it = true := by
  rw [rightI_it, Bool.and_eq_true, decide_eq_true_eq, List.all_eq_true]
  refine ⟨?_, fun p hp => ?_⟩
  · rcases Nat.eq_zero_or_pos (allV x 1).length with h0 | h0
    · omega
    · have := h ((allV x 1).length - 1) _ (List.getElem?_eq_getElem (by omega))
      unfold okN at this
      rw [Bool.and_eq_true, decide_eq_true_eq] at this
      omega
  · obtain ⟨j, hj⟩ := List.getElem?_of_mem hp
    have := h j p hj
    unfold okN at this
    rw [Bool.and_eq_true] at this
    exact this.2
theorem right_not {x : Iv} {j : Nat} {p : Nat × Iv} (hj : (allV x 1)[j]? = some p) (h : okN j p = false) : rightI x.it = false := by
  cases hr : rightI x.it with
  | false => rfl
  | true =>
    rw [rightI_it, Bool.and_eq_true, decide_eq_true_eq, List.all_eq_true] at hr
    have hlt := (List.getElem?_eq_some_iff.1 hj).1
    have h2 := hr.2 p (List.mem_of_getElem? hj)
    unfold okN at h
    rw [decide_eq_true (by omega), Bool.true_and, h2] at h
    cases h
end Go.Ev
namespace Go.Proofs.YtolmipnaheifcaaGreatDoor
open Go Go.Ev Go.Proofs
set_option maxRecDepth 100000
set_option maxHeartbeats 4000000
def plRRN : Plans := fun i => if i = 6 then [(0, 9)] else Tryz.pl14 i
attribute [push_cast] plRRN
theorem rright_ok {M0 : Hp} (hr : roM M0) {x : Iv} (hx : IvOk M0 x) : CallsV Tryz.prog 14 [x.v] M0 (Ret0 (.bool (rightI x.it))) := by
  have hm := hr.marks
  have xall : x.cells.all oneC = true := Iv.all1 hx.one
  have xv : x.v.cells.toList = x.cells := rfl
  have x3 : List.take 3 x.cells = x.cells := List.take_of_length_le (Nat.le_of_eq rfl)
  obtain ⟨R, hR⟩ : ∃ R, R = rightI x.it := ⟨_, rfl⟩
  rw [← hR]
  refine callsO gN3_ok Tryz.mix plRRN Tryz.func14 rfl Tryz.ntmps14 Tryz.results14 rfl (by first | rfl | assumption) (Nat.le_of_ble_eq_true rfl) (by kernel_rfl) ?_
  simp only [push_cast, seval, reduceCtorEq, xv]
  intro b1 hb1 b2 hb2 b3 hb3
  try simp only [push_cast, seval, reduceCtorEq, hb2, hb3, x3, Iv.len]
  have hroM : ∀ e ∈ M0, e.kind = .ro := fun e he => (derE_mem hr.der e he).1
  have f1 : fresh b1 M0 := hb1
  refine (rall_ok x ((1 : Nat) : Int) hx.one).use trivial ?_
  rintro _ _ ⟨b', c', rfl, rfl, hne, hne2⟩
  refine ⟨⟨trivial, trivial, trivial⟩, rfl, fun hfn => ?_⟩
  have hfn0 := hfn
  simp only [push_cast, seval, reduceCtorEq] at hfn0
  simp only [push_cast, seval, reduceCtorEq, hb2, hb3]
  obtain ⟨C, hC⟩ : ∃ C : Ent, C = ⟨c', 0, .cel 3, [.int .i64 1]⟩ := ⟨_, rfl⟩
  obtain ⟨Bk, hBk⟩ : ∃ C : Ent, C = ⟨b', 0, .cel 29, x.cells⟩ := ⟨_, rfl⟩
  rw [← hC, ← hBk]
  have mC : ∀ X : Hp, marksOf (C :: X) = marksOf X := fun X => by rw [hC]; rfl
  have mK : ∀ X : Hp, marksOf (Bk :: X) = marksOf X := fun X => by rw [hBk]; rfl
  obtain ⟨fc', fb', -⟩ := hfn
  have hc'M : fresh c' M0 := fc'.2.2.2.2.2.2
  have hb'M : fresh b' M0 := fb'.2.2.2.2.2.2
  refine WpV.perm (H' := ([C, Bk] ++ M0) ++ ([⟨b3, 0, .cel 3, [.int .i64 0]⟩, ⟨b2, 0, .cel 4, [.bool false]⟩] ++ [⟨b1, 0, .cel 29, x.cells⟩])) ?_ ?_ ?_
  · classical
    refine List.perm_iff_count.2 fun a => ?_
    simp only [List.count_append, List.count_cons, List.count_nil]
    omega
  · subst hC hBk; simp [marks_append, hm, marksOf]
  have hit' : IterV Tryz.prog 54 [.pointer (some ⟨c', 0, none⟩), .pointer (some ⟨b', 0, none⟩)] ([C, Bk] ++ M0) (allA x 1) := by
    refine IterV.toRo (A := [C, Bk]) ?_ ?_
    · intro e he
      rcases List.mem_cons.1 he with rfl | he
      · rw [hC]; exact ⟨rfl, _, rfl⟩
      · rw [List.mem_singleton.1 he, hBk]; exact ⟨rfl, _, rfl⟩
    have x1 : Ext M0 (roE Bk :: M0) := Ext.cons hm (by rw [hBk]; rfl) (by rw [hBk]; exact hb'M)
    have x2 : Ext (roE Bk :: M0) (roE C :: roE Bk :: M0) := Ext.cons (by rw [hBk]; exact hm) (by rw [hC]; rfl) (by rw [hC, hBk]; exact ⟨hne, hne2, hc'M⟩)
    refine rall1_ok x 1 ([C, Bk].map roE ++ M0) b' c' .ro .ro ?_ ?_ ?_ ((hx.ext x1).ext x2) (by omega)
    · intro e he
      rcases List.mem_append.1 he with he | he
      · obtain ⟨y, -, rfl⟩ := List.mem_map.1 he; rfl
      · exact hroM e he
    · rw [hC, hBk]; simp [findE, roE, hne2]
    · rw [hC, hBk]; simp [findE, roE]
  refine rangeO gN3_ok (pl := plRRN) Tryz.mix (Hc := [C, Bk] ++ M0) (Hm := []) hit' rfl
    (X := Nat × Bool) (fun s => [⟨b3, 0, .cel 3, [.int .i64 s.1]⟩, ⟨b2, 0, .cel 4, [.bool s.2]⟩])
    (fun k s => s = (k, false) ∧ ∀ j p, j < k → (allV x 1)[j]? = some p → okN j p = true) (fun c s => c = .ret ∧ s.2 = false ∧ R = false) (0, false)
    ?_ ?_ ?_ ?_ (by simp) (fun s => rfl) (fun s u e he => .inl ?_) ?_ (by kernel_rfl) (by kernel_rfl) ?_ ?_ ?_ ?_
  · exact ⟨rfl, fun j p hj => absurd hj (Nat.not_lt_zero _)⟩
  · rw [← List.append_assoc]; exact subH_frontN _ _
  · subst hC hBk; simp [marks_append, hm, marksOf]
  · subst hC hBk; simp [marks_append, hm, marksOf]
  · simp at he; rcases he with rfl | rfl <;> trivial
  · intro args ha
    obtain ⟨y, -, rfl⟩ := List.mem_map.1 ha
    rfl
  · rintro c' z' ⟨rfl, -⟩
    kernel_rfl
  · rintro lo k s args hk ⟨rfl, hok⟩
    obtain ⟨q, hq, rfl⟩ := Option.map_eq_some_iff.1 ((List.getElem?_map ..).symm.trans hk)
    have qok := allV_ok x hx q (List.mem_of_getElem? hq)
    have qall : q.2.cells.all oneC = true := Iv.all1 qok.one
    have q3 : List.take 3 q.2.cells = q.2.cells := List.take_of_length_le (Nat.le_of_eq rfl)
    have qv : q.2.v.cells.toList = q.2.cells := rfl
    have hk5 : k ≤ 5000 := by
      rcases Nat.eq_zero_or_pos k with h0 | h0
      · omega
      · have hlt := (List.getElem?_eq_some_iff.1 hq).1
        have := hok (k - 1) _ (by omega) (List.getElem?_eq_getElem (by omega))
        unfold okN at this
        rw [Bool.and_eq_true, decide_eq_true_eq] at this
        omega
    generalize hRK : (roundK _ _ _ k : Exit → Tm → Hp → Prop) = RK
    show oC _ _ _ _ _ _ _ (parT 38 _ _ [.int .i64 (q.1 : Nat), q.2.v]) _
    dsimp only
    simp only [push_cast, seval, reduceCtorEq, hb2, hb3, qall, q3, Iv.len, qv]
    intro b5 hb5
    simp only [push_cast, seval, reduceCtorEq, hb2, hb3, hb5, wrap_i64' (show -9223372036854775808 ≤ (k : Int) + 1 ∧ (k : Int) + 1 ≤ 9223372036854775807 by omega)]
    refine regO gN3_ok ?_
    obtain ⟨p2, c2, hs2, -⟩ := id qok.li
    have qc : q.2.cells = [.bool q.2.list, .string (bs q.2.bytes), .slice p2 q.2.kids.length c2] := by rw [← hs2]; rfl
    have e1 : ByteArray.toList { data := #[] } = [] := bs_toList []
    have stop : ∀ T, okN k q = false → RK .ret T ([⟨b5, 0, .cel 29, q.2.cells⟩, ⟨b3, 0, .cel 3, [.int .i64 ((k : Int) + 1)]⟩, ⟨b2, 0, .cel 4, [.bool false]⟩]) := fun T h => by
      rw [← hRK]
      refine ⟨(k + 1, false), ⟨rfl, rfl, by rw [hR]; exact right_not hq h⟩, ?_⟩
      exact subH_cons (by simp only [push_cast, seval, reduceCtorEq, hb5])
    have next : ∀ T, okN k q = true → RK .normal T ([⟨b5, 0, .cel 29, q.2.cells⟩, ⟨b3, 0, .cel 3, [.int .i64 ((k : Int) + 1)]⟩, ⟨b2, 0, .cel 4, [.bool false]⟩]) := fun T h => by
      rw [← hRK]
      refine ⟨(k + 1, false), ⟨rfl, fun j p hj hp => ?_⟩, ?_⟩
      · by_cases hjk : j = k
        · subst hjk; rw [hq] at hp; cases hp; exact h
        · exact hok j p (by omega) hp
      · exact subH_cons (by simp only [push_cast, seval, reduceCtorEq, hb5])
    have hw := wfI_it q.2
    have un : okN k q = (decide (k + 1 ≤ 5000) && (decide (q.1 ≤ 16) && wfI q.2.it)) := rfl
    rw [hw] at un
    by_cases h1 : 5000 < k + 1
    · have c1 : (5000 : Int) < (k : Int) + 1 := by omega
      have hbad : okN k q = false := by rw [un, decide_eq_false (by omega)]; rfl
      simp only [push_cast, seval, reduceCtorEq, hb2, hb3, hb5, c1]
      exact stop _ hbad
    have c1 : ¬ (5000 : Int) < (k : Int) + 1 := by omega
    rw [decide_eq_true (show k + 1 ≤ 5000 by omega), Bool.true_and] at un
    by_cases h2 : 16 < q.1
    · have c2 : (16 : Int) < (q.1 : Int) := by omega
      have hbad : okN k q = false := by rw [un, decide_eq_false (by omega)]; rfl
      simp only [push_cast, seval, reduceCtorEq, hb2, hb3, hb5, c1, c2]
      exact stop _ hbad
    have c2 : ¬ (16 : Int) < (q.1 : Int) := by omega
    rw [decide_eq_true (show q.1 ≤ 16 by omega), Bool.true_and] at un
    cases hl : q.2.list with
    | true =>
      rw [hl, if_pos rfl] at un
      rw [hl] at qc
      by_cases hbs : q.2.bytes = []
      · have e2 : (q.2.bytes == []) = true := by rw [hbs]; rfl
        simp only [push_cast, seval, reduceCtorEq, hb2, hb3, hb5, c1, c2, qc, e1, e2]
        rw [← qc]
        exact next _ (by rw [un, hbs]; rfl)
      · have e2 : (q.2.bytes == []) = false := by simpa using hbs
        simp only [push_cast, seval, reduceCtorEq, hb2, hb3, hb5, c1, c2, qc, e1, e2]
        rw [← qc]
        exact stop _ (by rw [un]; simpa [List.isEmpty_iff] using hbs)
    | false =>
      rw [hl, if_neg (by decide)] at un
      rw [hl] at qc
      by_cases hks : q.2.kids = []
      · have e2 : ¬ 0 < q.2.kids.length := by rw [hks]; decide
        simp only [push_cast, seval, reduceCtorEq, hb2, hb3, hb5, c1, c2, qc, e1, e2]
        rw [← qc]
        exact next _ (by rw [un, hks]; rfl)
      · have e2 : 0 < q.2.kids.length := List.length_pos_iff.2 hks
        simp only [push_cast, seval, reduceCtorEq, hb2, hb3, hb5, c1, c2, qc, e1, e2]
        rw [← qc]
        exact stop _ (by rw [un]; simpa [List.isEmpty_iff] using hks)
  · rintro D s hfD ⟨rfl, hok⟩
    simp only [push_cast, seval, reduceCtorEq] at hfD
    have hl : (allA x 1).length = (allV x 1).length := by unfold allA; rw [List.length_map]
    have hRt : R = true := by rw [hR]; exact right_all fun j p hp => hok j p (by rw [hl]; exact (List.getElem?_eq_some_iff.1 hp).1) hp
    simp only [push_cast, seval, reduceCtorEq, hb2, hb3, hfD, hRt]
  · rintro D cd s hfD ⟨rfl, h1, h2⟩
    simp only [push_cast, seval, reduceCtorEq] at hfD
    obtain ⟨s1, s2⟩ := s
    dsimp only at h1
    subst h1
    simp only [push_cast, seval, reduceCtorEq, hb2, hb3, hfD, h2]
end Go.Proofs.YtolmipnaheifcaaGreatDoor
set_option linter.unusedSimpArgs false
set_option linter.unusedVariables false
namespace Go.Ev
noncomputable def sameI (x y : It) : Bool := @decide (x = y) (Classical.propDecidable _)
noncomputable def samesI (x y : List It) : Bool := @decide (x = y) (Classical.propDecidable _)
theorem sameI_t {x y : It} (h : x = y) : sameI x y = true := by unfold sameI; exact @decide_eq_true _ (Classical.propDecidable _) h
theorem sameI_f {x y : It} (h : ¬ x = y) : sameI x y = false := by unfold sameI; exact @decide_eq_false _ (Classical.propDecidable _) h
theorem samesI_t {x y : List It} (h : x = y) : samesI x y = true := by unfold samesI; exact @decide_eq_true _ (Classical.propDecidable _) h
theorem samesI_f {x y : List It} (h : ¬ x = y) : samesI x y = false := by unfold samesI; exact @decide_eq_false _ (Classical.propDecidable _) h
theorem sameI_eq (x y : It) : sameI x y = (x.list == y.list && (x.bytes == y.bytes && samesI x.kids y.kids)) := by
  obtain ⟨l, b, k⟩ := x
  obtain ⟨l', b', k'⟩ := y
  show _ = (l == l' && (b == b' && samesI k k'))
  by_cases h1 : l = l'
  case neg => rw [sameI_f (fun h => by injection h with h; exact h1 h), beq_eq_false_iff_ne.2 h1, Bool.false_and]
  by_cases h2 : b = b'
  case neg => rw [sameI_f (fun h => by injection h with _ h; exact h2 h), beq_eq_false_iff_ne.2 h2, Bool.false_and, Bool.and_false]
  rw [h1, h2, beq_self_eq_true, beq_self_eq_true, Bool.true_and, Bool.true_and]
  rcases Classical.em (k = k') with h3 | h3
  · rw [samesI_t h3, sameI_t (by rw [h3])]
  · rw [samesI_f h3, sameI_f (fun h => by injection h with _ _ h; exact h3 h)]
noncomputable def encD (x : It) : List UInt8 × Int := if rightI x = true then (if (encL x).length ≤ 1048576 then (encL x, 0) else ([], 2)) else ([], 1)
def noZ (b : List UInt8) : Bool := b.headD 1 == 0
noncomputable def valP (l : Bool) (b : List UInt8) (n : Nat) : W × Bool :=
  if l = true ∨ 0 < n ∨ 32 < b.length ∨ noZ b = true then (W.zero, false) else (frombW b, true)
noncomputable def rvalG : List Value → Option Value
  | [.agg ⟨[.bool l, .string b, .slice p n c]⟩] => if n ≤ 1099511627776 ∧ b.size ≤ 1099511627776 then some (.tuple #[(valP l b.data.toList n).1.v, .bool (valP l b.data.toList n).2]) else none
  | _ => none
noncomputable def hasZG : List Value → Option Value
  | [.string s, .string t] => if t.data.toList = [0] then some (.bool (noZ s.data.toList)) else none
  | _ => none
attribute [push_cast] rvalG hasZG
end Go.Ev
namespace Go.Proofs.YtolmipnaheifcaaGreatDoor
open Go Go.Ev Go.Proofs
set_option maxRecDepth 100000
set_option maxHeartbeats 4000000
theorem hasZ0_ok (l : List UInt8) : CallsV Tryz.prog 50 [.string (bs l), .string (bs [0])] [] (Ret0 (.bool (noZ l))) := by
  have e0 : (bs [0]).toList = [0] := bs_toList _
  have e2 : ([0] : List UInt8).length = 1 := rfl
  refine callsO gO2_ok Tryz.mix Tryz.pl50 Tryz.func50 rfl Tryz.ntmps50 Tryz.results50 rfl (by first | rfl | assumption) (Nat.le_of_ble_eq_true rfl) (by kernel_rfl) ?_
  cases l with
  | nil =>
    have d1 : ¬ (1 : Int) ≤ 0 := by decide
    have d2 : ([] : List UInt8).length = 0 := rfl
    have d3 : noZ [] = false := rfl
    simp only [push_cast, seval, reduceCtorEq, e2, d1, d2, d3]
  | cons y r =>
    obtain ⟨z, hz⟩ : ∃ z, z = y :: r := ⟨_, rfl⟩
    have zl : z.length = r.length + 1 := by rw [hz]; rfl
    have c2 : 1 ≤ z.length := by omega
    have c4 : (1 : Int) ≤ (z.length : Int) := by omega
    have tk : List.take 1 z = [y] := by rw [hz]; rfl
    have nz : noZ z = (y == 0) := by rw [hz]; rfl
    have e5 : (([y] : List UInt8) == [0]) = (y == 0) := by simp
    rw [← hz]
    simp only [push_cast, seval, reduceCtorEq, e0, e2, c2, c4, tk, nz, e5]
theorem hasZ1_ok (l : List UInt8) : CallsV Tryz.prog 28 [.string (bs l), .string (bs [0])] [] (Ret0 (.bool (noZ l))) := by
  refine callsO gO2_ok Tryz.mix Tryz.pl28 Tryz.func28 rfl Tryz.ntmps28 Tryz.results28 rfl (by first | rfl | assumption) (Nat.le_of_ble_eq_true rfl) (by kernel_rfl) ?_
  simp only [push_cast, seval, reduceCtorEq]
  refine (hasZ0_ok l).pure trivial ?_
  simp only [push_cast, seval, reduceCtorEq]
theorem hasZG_ok (args : List Value) (v : Value) (h : hasZG args = some v) : CallsV Tryz.prog 28 args [] (Ret0 v) := by
  unfold hasZG at h
  split at h
  · split at h
    · rename_i s t ht
      cases h
      obtain ⟨l, rfl⟩ := bs_of s
      obtain ⟨m, rfl⟩ := bs_of t
      rw [bs_data] at ht
      rw [ht, bs_data]
      exact hasZ1_ok l
    · cases h
  · cases h
noncomputable def gO3 : Gam := (addG 28 hasZG gO2)
attribute [push_cast] gO3
theorem gO3_ok : GamOk Tryz.prog gO3 := (addG_ok hasZG_ok gO2_ok)
attribute [push_cast] gO3
theorem rval_ok (l : Bool) (b : List UInt8) (p : Option Addr) (n c : Nat) (hn : n ≤ 1099511627776) (hb : b.length ≤ 1099511627776) : CallsV Tryz.prog 12 [.agg #[.bool l, .string (bs b), .slice p n c]] [] (Ret0 (.tuple #[(valP l b n).1.v, .bool (valP l b n).2])) := by
  obtain ⟨R, hR⟩ : ∃ R, R = valP l b n := ⟨_, rfl⟩
  rw [← hR]
  unfold valP at hR
  have e0 : (bs [0]).data.toList = [0] := bs_data _
  refine callsO gO3_ok Tryz.mix (fun i => if i = 1 then [(0, 9)] else Tryz.pl12 i) Tryz.func12 rfl Tryz.ntmps12 Tryz.results12 rfl (by first | rfl | assumption) (Nat.le_of_ble_eq_true rfl) (by kernel_rfl) ?_
  simp only [push_cast, seval, reduceCtorEq]
  intro b1 b2 hb2
  refine regO gO3_ok ?_
  have z4 : (W.zero.v) = .agg W.zero.cells.toArray := rfl
  cases l with
  | true =>
    rw [if_pos (.inl rfl)] at hR
    simp only [push_cast, seval, reduceCtorEq, hb2]
    rw [hR]
  | false =>
    by_cases c1 : 0 < n
    · have d1 : (0 : Int) < (n : Int) := by omega
      rw [if_pos (.inr (.inl c1))] at hR
      simp only [push_cast, seval, reduceCtorEq, hb2, d1]
      rw [hR]
    have d1 : ¬ (0 : Int) < (n : Int) := by omega
    by_cases c2 : 32 < b.length
    · have d2 : (32 : Int) < (b.length : Int) := by omega
      rw [if_pos (.inr (.inr (.inl c2)))] at hR
      simp only [push_cast, seval, reduceCtorEq, hb2, d1, d2]
      rw [hR]
    have d2 : ¬ (32 : Int) < (b.length : Int) := by omega
    cases hz : noZ b with
    | true =>
      rw [if_pos (.inr (.inr (.inr hz)))] at hR
      simp only [push_cast, seval, reduceCtorEq, hb2, d1, d2, e0, hz]
      rw [hR]
    | false =>
      rw [if_neg (by rw [hz]; rintro (h | h | h | h) <;> first | omega | cases h)] at hR
      have hsz : szB b.length = true := szB_in (by omega)
      simp only [push_cast, seval, reduceCtorEq, hb2, d1, d2, e0, hz, hsz]
      rw [hR]
theorem rvalG_ok (args : List Value) (v : Value) (h : rvalG args = some v) : CallsV Tryz.prog 12 args [] (Ret0 v) := by
  unfold rvalG at h
  split at h
  · split at h
    · rename_i l b p n c hn
      cases h
      obtain ⟨m, rfl⟩ := bs_of b
      rw [bs_data]
      exact rval_ok l m p n c hn.1 hn.2
    · cases h
  · cases h
theorem iteqF_ok {M : Hp} {ks ls : List Iv} {v u : Value} (hv : LiR Iv.cells 3 M ks v) (hu : LiR Iv.cells 3 M ls u) (hm : marksOf M = []) (hn : ks.length ≤ 1099511627776) (hn2 : ls.length ≤ 1099511627776) (o1 : ∀ k ∈ ks, oneC k.sv = true) (o2 : ∀ k ∈ ls, oneC k.sv = true)
    (hc : ∀ k ∈ ks, ∀ l ∈ ls, ∀ M1, roM M1 → cellsAt M1 = cellsAt M → CallsV Tryz.prog 16 [k.v, l.v] M1 (Ret0 (.bool (sameI k.it l.it)))) :
    CallsV Tryz.prog 34 [v, u, .func (.func 16) #[] #[]] M (Ret0 (.bool (samesI (ks.map Iv.it) (ls.map Iv.it)))) := by
  obtain ⟨p, k, rfl, hla⟩ := hv.openC Iv.len (by decide)
  obtain ⟨q, n, rfl, hra⟩ := hu.openC Iv.len (by decide)
  refine callsO gO3_ok Tryz.mix Tryz.pl34 Tryz.func34 rfl Tryz.ntmps34 Tryz.results34 rfl (by first | rfl | assumption) (Nat.le_of_ble_eq_true rfl) (by kernel_rfl) ?_
  by_cases hl : ks.length = ls.length
  case neg =>
    have e : samesI (ks.map Iv.it) (ls.map Iv.it) = false := samesI_f fun h => hl (by have := congrArg List.length h; rwa [List.length_map, List.length_map] at this)
    have e1 : (((ks.length : Nat) : Int) != ((ls.length : Nat) : Int)) = true := by rw [bne_iff_ne]; omega
    simp only [push_cast, seval, reduceCtorEq, e, e1]
  have e1 : (((ks.length : Nat) : Int) != ((ls.length : Nat) : Int)) = false := by rw [hl]; exact bne_self_eq_false _
  simp only [push_cast, seval, reduceCtorEq, e1]
  refine loopO gO3_ok (pl := Tryz.pl34) Tryz.mix (X := Nat)
    (fun i => ([(0, .slice p ks.length k), (1, .slice q ls.length n), (15, .slice p ks.length k), (16, .int .i64 ks.length), (2, .func (.func 16) #[] #[]), (17, .int .i64 i)], M))
    (fun i => i ≤ ks.length ∧ (ks.take i).map Iv.it = (ls.take i).map Iv.it) (fun i => ks.length - i) 0 ?_ ?_ (by kernel_rfl) ?_
  · exact ⟨Nat.zero_le _, rfl⟩
  · simp only [push_cast, seval, reduceCtorEq]
  · rintro i ⟨hi, ht⟩
    dsimp only at hi ht ⊢
    rcases Nat.lt_or_ge i ks.length with hlt | hge
    · obtain ⟨x, hx⟩ : ∃ x, ks[i]? = some x := ⟨ks[i], List.getElem?_eq_getElem hlt⟩
      obtain ⟨y, hy⟩ : ∃ y, ls[i]? = some y := ⟨ls[i]'(by omega), List.getElem?_eq_getElem (by omega)⟩
      rcases hla with rfl | ⟨b, f, d, kd, cs, rfl, he, hat⟩
      · simp at hx
      rcases hra with rfl | ⟨b', f', d', kd', cs', rfl, he', hat'⟩
      · simp at hy
      have hxm := List.mem_of_getElem? hx
      have hym := List.mem_of_getElem? hy
      obtain ⟨a1, a2⟩ := hat i x hx
      obtain ⟨b1, b2⟩ := hat' i y hy
      have a0 : x.cells.all oneC = true := Iv.all1 (o1 x hxm)
      have b0 : y.cells.all oneC = true := Iv.all1 (o2 y hym)
      have x3 : List.take 3 x.cells = x.cells := rfl
      have y3 : List.take 3 y.cells = y.cells := rfl
      have xv : Value.agg x.cells.toArray = x.v := rfl
      have yv : Value.agg y.cells.toArray = y.v := rfl
      have i1 : (i : Int) < (ks.length : Int) := by omega
      have i2 : (i : Int) < (ls.length : Int) := by omega
      have i3 : i < ls.length := by omega
      simp only [push_cast, seval, reduceCtorEq, i1, i2, i3, hlt, he, a1, a2, a0, Iv.len, x3]
      intro b8 hb8
      have d1 := (fresh_findS hb8 he').2
      try simp only [push_cast, seval, reduceCtorEq, i1, i2, i3, hlt, he, he', a1, a2, b1, b2, d1, hb8, a0, b0, Iv.len, x3, y3]
      intro b9 hb9
      try simp only [push_cast, seval, reduceCtorEq, hb8, hb9, a0, b0, Iv.len, x3, y3, xv, yv]
      refine useP [_, _] (fun M1 hr1 he1 => hc x hxm y hym M1 hr1 he1) ⟨hb9.2.2, hb8, trivial⟩ ?_
      by_cases hxy : x.it = y.it
      · simp only [push_cast, seval, reduceCtorEq, sameI_t hxy, wrap_i64' (show -9223372036854775808 ≤ (i : Int) + 1 ∧ (i : Int) + 1 ≤ 9223372036854775807 by omega)]
        refine ⟨i + 1, ⟨hlt, ?_⟩, by omega, rfl, ?_⟩
        · rw [List.take_add_one, List.take_add_one, hx, hy, List.map_append, List.map_append, ht]
          simp [hxy]
        · exact subH_skip6 hb9.2.2 (subH_skip6 hb8 (subH_self _))
      · have e : samesI (ks.map Iv.it) (ls.map Iv.it) = false := samesI_f fun h => hxy (by
          have h1 : (ks.map Iv.it)[i]? = some x.it := by rw [List.getElem?_map, hx]; rfl
          have h2 : (ls.map Iv.it)[i]? = some y.it := by rw [List.getElem?_map, hy]; rfl
          rw [h, h2] at h1
          exact (Option.some.inj h1).symm)
        simp only [push_cast, seval, reduceCtorEq, sameI_f hxy, e]
    · obtain rfl : i = ks.length := by omega
      have e : samesI (ks.map Iv.it) (ls.map Iv.it) = true := samesI_t (by
        rw [List.take_length, hl, List.take_length] at ht; exact ht)
      simp only [push_cast, seval, reduceCtorEq, Nat.lt_irrefl, Int.lt_irrefl, e]
theorem rsame_ok (x : Iv) : ∀ (y : Iv) (M0 : Hp), roM M0 → IvOk M0 x → IvOk M0 y → CallsV Tryz.prog 16 [x.v, y.v] M0 (Ret0 (.bool (sameI x.it y.it))) := by
  induction x using Iv.ind with
  | h x ih =>
    intro y M0 hr hx hy
    have hm := hr.marks
    have e := sameI_eq x.it y.it
    rw [Iv.it_list, Iv.it_list, Iv.it_bytes, Iv.it_bytes, Iv.it_kids, Iv.it_kids] at e
    have hlx := hx.li
    have hly := hy.li
    have hc : ∀ k ∈ x.kids, ∀ l ∈ y.kids, ∀ M1, roM M1 → cellsAt M1 = cellsAt M0 → CallsV Tryz.prog 16 [k.v, l.v] M1 (Ret0 (.bool (sameI k.it l.it))) := fun k hk l hl M1 hr1 he1 => ih k hk l M1 hr1 ((hx.kid k hk).congr he1.symm) ((hy.kid l hl).congr he1.symm)
    have o1 : ∀ k ∈ x.kids, oneC k.sv = true := fun k hk => (hx.kid k hk).one
    have o2 : ∀ k ∈ y.kids, oneC k.sv = true := fun k hk => (hy.kid k hk).one
    have nx := hx.len
    have ny := hy.len
    obtain ⟨xl, xb, xs, xk⟩ := x
    obtain ⟨yl, yb, ys, yk⟩ := y
    replace hlx : LiR Iv.cells 3 M0 xk xs := hlx
    replace hly : LiR Iv.cells 3 M0 yk ys := hly
    obtain ⟨p, c, rfl, -⟩ := id hlx
    obtain ⟨p', c', rfl, -⟩ := id hly
    show CallsV Tryz.prog 16 [.agg #[.bool xl, .string (bs xb), .slice p xk.length c], .agg #[.bool yl, .string (bs yb), .slice p' yk.length c']] M0 _
    replace e : sameI (Iv.mk xl xb (.slice p xk.length c) xk).it (Iv.mk yl yb (.slice p' yk.length c') yk).it = (xl == yl && (xb == yb && samesI (xk.map Iv.it) (yk.map Iv.it))) := e
    rw [e]
    refine callsO gO3_ok Tryz.mix (fun i => if i = 1 then [(0, 9)] else Tryz.pl16 i) Tryz.func16 rfl Tryz.ntmps16 Tryz.results16 rfl (by first | rfl | assumption) (Nat.le_of_ble_eq_true rfl) (by kernel_rfl) ?_
    simp only [push_cast, seval, reduceCtorEq]
    intro b2 hb2 b3 hb3
    refine regO gO3_ok ?_
    by_cases c1 : xl = yl
    case neg =>
      have d1 : (xl == yl) = false := beq_eq_false_iff_ne.2 c1
      simp only [push_cast, seval, reduceCtorEq, hb3, d1]
    have d1 : (xl == yl) = true := by rw [c1]; exact beq_self_eq_true _
    by_cases c2 : xb = yb
    case neg =>
      have d2 : (xb == yb) = false := beq_eq_false_iff_ne.2 c2
      simp only [push_cast, seval, reduceCtorEq, hb3, d1, d2]
    have d2 : (xb == yb) = true := by rw [c2]; exact beq_self_eq_true _
    simp only [push_cast, seval, reduceCtorEq, hb3, d1, d2]
    refine useP [_, _] (fun M1 hr1 he1 => iteqF_ok (hlx.congr he1.symm) (hly.congr he1.symm) hr1.marks nx ny o1 o2 fun k hk l hl M2 hr2 he2 => hc k hk l hl M2 hr2 (he2.trans he1)) ⟨hb3.2.2, hb2, trivial⟩ ?_
    simp only [push_cast, seval, reduceCtorEq]
theorem rsame_R {M : Hp} {x y : Iv} (hx : IvOk M x) (hy : IvOk M y) : ∀ M0, roM M0 → cellsAt M0 = cellsAt M → CallsV Tryz.prog 16 [x.v, y.v] M0 (Ret0 (.bool (sameI x.it y.it))) := fun M0 hr he => rsame_ok x y M0 hr (hx.congr he.symm) (hy.congr he.symm)
theorem rright_R {M : Hp} {x : Iv} (hx : IvOk M x) : ∀ M0, roM M0 → cellsAt M0 = cellsAt M → CallsV Tryz.prog 14 [x.v] M0 (Ret0 (.bool (rightI x.it))) := fun M0 hr he => rright_ok hr (hx.congr he.symm)
theorem renc_R {M : Hp} {x : Iv} (hx : IvOk M x) (hl : (encL x.it).length ≤ 1099511627776) : ∀ M0, roM M0 → cellsAt M0 = cellsAt M → CallsV Tryz.prog 10 [x.v] M0 (Ret0 (.tuple #[.string (bs (encD x.it).1), .int .i64 (encD x.it).2])) := by
  intro M0 hr he
  have hx0 := hx.congr he.symm
  have hm := hr.marks
  have il : x.cells.length = 3 := rfl
  have it3 : List.take 3 x.cells = x.cells := List.take_of_length_le (Nat.le_of_eq rfl)
  have xv : x.v.cells.toList = x.cells := rfl
  have xall : x.cells.all oneC = true := Iv.all1 hx0.one
  refine callsO gO3_ok Tryz.mix Tryz.pl10 Tryz.func10 rfl Tryz.ntmps10 Tryz.results10 rfl (by first | rfl | assumption) (Nat.le_of_ble_eq_true rfl) (by kernel_rfl) ?_
  simp only [push_cast, seval, reduceCtorEq, xv, xall, il]
  intro b1 hb1
  try simp only [push_cast, seval, reduceCtorEq, il, it3]
  refine useP [_] (v := .bool (rightI x.it)) (fun M1 hr1 he1 => rright_ok hr1 (hx0.congr he1.symm)) ⟨hb1, trivial⟩ ?_
  cases hri : rightI x.it with
  | false =>
    simp only [push_cast, seval, reduceCtorEq, il, it3]
    unfold encD
    rw [hri]
    rfl
  | true =>
    simp only [push_cast, seval, reduceCtorEq, il, it3]
    refine useP [_] (fun M1 hr1 he1 => encode_ok x M1 hr1 (hx0.congr he1.symm) hl) ⟨hb1, trivial⟩ ?_
    have hz : (bs (encL x.it)).size = (encL x.it).length := rfl
    rcases Nat.lt_or_ge 1048576 (encL x.it).length with h | h
    · have h' : (1048576 : Int) < ((encL x.it).length : Int) := by omega
      simp only [push_cast, seval, reduceCtorEq, hz, h']
      unfold encD
      rw [hri, if_pos rfl, if_neg (by omega)]
      rfl
    · have h' : ¬ (1048576 : Int) < ((encL x.it).length : Int) := by omega
      simp only [push_cast, seval, reduceCtorEq, hz, h']
      unfold encD
      rw [hri, if_pos rfl, if_pos h]
end Go.Proofs.YtolmipnaheifcaaGreatDoor
