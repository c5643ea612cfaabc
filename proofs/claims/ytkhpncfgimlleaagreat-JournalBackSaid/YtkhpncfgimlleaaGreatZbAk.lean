/- Texts of this claim, merged by program: Ai Aj Ak Eq Al. -/
import Derived.Test.YtkhpncfgimlleaaGreatZbAj
import Derived.Test.YtkhpncfgimlleaaGreatZbAh
set_option linter.unusedSimpArgs false
set_option linter.unusedVariables false
namespace Go.Ev
theorem Ac.all1 (x : Ac) (sv : Value) (h : oneC sv = true) : (x.cells sv).all oneC = true := by
  unfold Ac.cells
  rw [List.all_append, x.at_.all1]
  show ((x.bal.cells ++ [.int .i64 x.nonce, .string x.code, sv]).all oneC) = true
  rw [List.all_append]
  simp only [List.all_cons, h]
  rfl
theorem Ac.set26 (x : Ac) (sv sv' : Value) : List.take 26 (x.cells sv) ++ sv' :: List.drop 27 (x.cells sv) = x.cells sv' := by
  have h := x.at_.len
  unfold Ac.cells
  rw [show 26 = x.at_.cells.length + 6 by omega, show 27 = x.at_.cells.length + 7 by omega, List.take_length_add_append, List.drop_length_add_append, List.append_assoc]
  rfl
def Ac.zeroC : List Value := [.int .u8 0, .int .u8 0, .int .u8 0, .int .u8 0, .int .u8 0, .int .u8 0, .int .u8 0, .int .u8 0, .int .u8 0, .int .u8 0, .int .u8 0, .int .u8 0, .int .u8 0, .int .u8 0, .int .u8 0, .int .u8 0, .int .u8 0, .int .u8 0, .int .u8 0, .int .u8 0, .int .u64 0, .int .u64 0, .int .u64 0, .int .u64 0, .int .i64 0, .string .empty, .slice none 0 0]
theorem Ac.all1s (x : Ac) (p : Option Addr) (n k : Nat) : (x.cells (.slice p n k)).all oneC = true := x.all1 _ rfl
theorem Ac.len26 (x : Ac) (sv : Value) : (List.take 26 (x.cells sv)).length + ((List.drop 27 (x.cells sv)).length + 1) = 27 := by
  have h := (x.get sv).2.2.2.2.2
  rw [List.length_take, List.length_drop, h]; rfl
theorem Ac.len (x : Ac) (sv : Value) : (x.cells sv).length = 27 := (x.get sv).2.2.2.2.2
theorem Ac.take27 (x : Ac) (sv : Value) : List.take 27 (x.cells sv) = x.cells sv := List.take_of_length_le (Nat.le_of_eq (x.len sv))
theorem Ac.drop27 (x : Ac) (sv : Value) : List.drop 27 (x.cells sv) = [] := List.drop_of_length_le (Nat.le_of_eq (x.len sv))
theorem Ac.at0 (x : Ac) (sv : Value) : List.take 20 (x.cells sv) = x.at_.cells := (x.get sv).1
theorem Ac.bal20 (x : Ac) (sv : Value) : List.take 4 (List.drop 20 (x.cells sv)) = x.bal.cells := (x.get sv).2.1
theorem Ac.non24 (x : Ac) (sv : Value) : List.take 1 (List.drop 24 (x.cells sv)) = [.int .i64 x.nonce] := (x.get sv).2.2.1
theorem Ac.cod25 (x : Ac) (sv : Value) : List.take 1 (List.drop 25 (x.cells sv)) = [.string x.code] := (x.get sv).2.2.2.1
theorem Ac.slo26 (x : Ac) (sv : Value) : List.take 1 (List.drop 26 (x.cells sv)) = [sv] := (x.get sv).2.2.2.2.1
theorem Ad.agg (x : Ad) : Value.agg x.cells.toArray = x.v := rfl
theorem Ad.v_cells (x : Ad) : x.v.cells = x.cells.toArray := rfl
theorem Ac.set26b (x : Ac) (sv sv' : Value) : List.take 26 (x.cells sv) ++ [sv'] = x.cells sv' := by
  have := x.set26 sv sv'
  rwa [Ac.drop27] at this
theorem Ac.len26b (x : Ac) (sv : Value) : (List.take 26 (x.cells sv)).length = 26 := by rw [List.length_take, Ac.len]; rfl
attribute [push_cast] Ac.set26b Ac.len26b Ac.all1s Ac.len26 Ac.len Ac.take27 Ac.drop27 Ac.at0 Ac.bal20 Ac.non24 Ac.cod25 Ac.slo26 Ac.set26 Ad.len Ad.all1 Ad.agg Ad.v_cells
theorem freshN_nil : ∀ N : Hp, freshN N []
  | [] => trivial
  | _ :: r => ⟨trivial, freshN_nil r⟩
theorem LiR.one {α : Type} {c : α → List Value} {s : Nat} {H : Hp} {l : List α} {v : Value} (h : LiR c s H l v) : oneC v = true := by
  obtain ⟨p, k, rfl, -⟩ := h; rfl
theorem slAll (l : List Sl) : (l.flatMap Sl.cells).all oneC = true := by
  rw [List.all_flatMap]
  exact List.all_eq_true.2 fun x _ => x.all1
theorem acAll {l : List (Ac × Value)} (h : ∀ x ∈ l, oneC x.2 = true) : (l.flatMap acC).all oneC = true := by
  rw [List.all_flatMap]
  exact List.all_eq_true.2 fun x hx => x.1.all1 _ (h x hx)
theorem Ch.all1 (x : Ch) : x.cells.all oneC = true := by
  unfold Ch.cells
  rw [List.all_cons, List.all_append, x.at_.all1]; rfl
theorem chAll (l : List Ch) : (l.flatMap Ch.cells).all oneC = true := by
  rw [List.all_flatMap]
  exact List.all_eq_true.2 fun x hx => x.all1
theorem intAll (l : List Int) : (l.flatMap intC).all oneC = true := by
  rw [List.all_flatMap]
  exact List.all_eq_true.2 fun x hx => rfl
end Go.Ev
namespace Go.Proofs.YtkhpncfgimlleaaGreat
open Go Go.Ev Go.Proofs
set_option maxRecDepth 100000
set_option maxHeartbeats 4000000
theorem refown_ok {M : Hp} {x : Ac} {sv : Value} (hs : LiR Sl.cells 8 M x.slots sv) (hn : x.slots.length ≤ 1000000000000) : CallsR Tryz.prog 30 [.agg (x.cells sv).toArray] M (AcR x) := by
  intro M0 hr he
  have hm := hr.marks
  replace hs := hs.congr he.symm
  obtain ⟨h1, h2, h3, h4, h5, h6⟩ := x.get sv
  refine callsO gA1_ok Tryz.mix (fun i => if i = 1 then [(0, 9)] else Tryz.pl30 i) Tryz.func30 rfl Tryz.ntmps30 Tryz.results30 rfl (by first | rfl | assumption) (Nat.le_of_ble_eq_true rfl) (by kernel_rfl) ?_
  simp only [push_cast, Nat.reduceAdd, Nat.reduceSub, Nat.reduceMul, Nat.reduceLT, Nat.reduceLeDiff, Nat.reduceEqDiff, Nat.reduceMod, Nat.reduceDiv, Int.reduceAdd, Int.reduceSub, Int.reduceMul, Int.reduceLT, Int.reduceLE, Int.reduceEq, Int.reduceNeg, Int.reduceToNat, reduceIte, reduceCtorEq, Int.reduceBEq, Int.reduceBNe]
  intro b1 hb1 b2 hb2
  have hL : freshN [⟨b2, 0, .cel 44, Ac.zeroC⟩, ⟨b1, 0, .cel 44, x.cells sv⟩] M0 := ⟨hb2.2.2, hb1, trivial⟩
  have hsrc := (hs.app hL).src (P := Tryz.prog) (xt := 42) (q := 8) (ag := true) (by simp only [push_cast, Nat.reduceAdd, Nat.reduceSub, Nat.reduceMul, Nat.reduceLT, Nat.reduceLeDiff, Nat.reduceEqDiff, Nat.reduceMod, Nat.reduceDiv, Int.reduceAdd, Int.reduceSub, Int.reduceMul, Int.reduceLT, Int.reduceLE, Int.reduceEq, Int.reduceNeg, Int.reduceToNat, reduceIte, reduceCtorEq, Int.reduceBEq, Int.reduceBNe])
  simp only [List.cons_append, List.nil_append, Ac.zeroC] at hsrc
  refine regO gA1_ok ?_
  simp only [push_cast, Nat.reduceAdd, Nat.reduceSub, Nat.reduceMul, Nat.reduceLT, Nat.reduceLeDiff, Nat.reduceEqDiff, Nat.reduceMod, Nat.reduceDiv, Int.reduceAdd, Int.reduceSub, Int.reduceMul, Int.reduceLT, Int.reduceLE, Int.reduceEq, Int.reduceNeg, Int.reduceToNat, reduceIte, reduceCtorEq, Int.reduceBEq, Int.reduceBNe, hb2, hsrc]
  refine ⟨fun h0 => ?_, fun h0 => ⟨by unfold two47; omega, fun b3 c3 hb3 hc3 => ?_⟩⟩
  · have hn0 : x.slots = [] := List.length_eq_zero_iff.1 h0
    refine ⟨[], List.nil_sublist _, trivial, rfl, fun _ => ⟨_, rfl, ?_⟩⟩
    rw [hn0]; exact LiR.nil _ _
  · simp only [push_cast, Nat.reduceAdd, Nat.reduceSub, Nat.reduceMul, Nat.reduceLT, Nat.reduceLeDiff, Nat.reduceEqDiff, Nat.reduceMod, Nat.reduceDiv, Int.reduceAdd, Int.reduceSub, Int.reduceMul, Int.reduceLT, Int.reduceLE, Int.reduceEq, Int.reduceNeg, Int.reduceToNat, reduceIte, reduceCtorEq, Int.reduceBEq, Int.reduceBNe, hb2, hb3]
    refine ⟨[⟨b3, 0, .vec 84 8 c3, List.flatMap Sl.cells x.slots⟩], ?_, ⟨trivial, trivial⟩, rfl, fun _ => ⟨_, rfl, ?_⟩⟩
    · exact (List.nil_sublist _).cons_cons _
    · exact OutG.liR (.inr ⟨b3, c3, rfl, hc3, flatMap_len (fun y => y.len) _, rfl⟩) rfl rfl M0
theorem cloneS_ok {M : Hp} {l : List Sl} {v : Value} (hv : LiR Sl.cells 8 M l v) (hm : marksOf M = []) (hn : l.length ≤ 1000000000000) : CallsV Tryz.prog 50 [v] M (OutG 84 8 (l.flatMap Sl.cells) l.length) := by
  have ha : (l.flatMap Sl.cells).all oneC = true := slAll l
  have hlen := flatMap_len (c := Sl.cells) (s := 8) (fun y => y.len) l
  have hsrc := fun b e => (hv.app (N := [⟨b, 0, .vec 84 8 0, []⟩]) e).src (P := Tryz.prog) (xt := 42) (q := 8) (ag := true) (by simp only [push_cast, Nat.reduceAdd, Nat.reduceSub, Nat.reduceMul, Nat.reduceLT, Nat.reduceLeDiff, Nat.reduceEqDiff, Nat.reduceMod, Nat.reduceDiv, Int.reduceAdd, Int.reduceSub, Int.reduceMul, Int.reduceLT, Int.reduceLE, Int.reduceEq, Int.reduceNeg, Int.reduceToNat, reduceIte, reduceCtorEq, Int.reduceBEq, Int.reduceBNe])
  have hv' := hv
  obtain ⟨p, k, rfl, h0⟩ := hv'
  have e0 : p = none → l = [] := fun hp => by
    rcases h0 with h | ⟨b, o, h, -⟩
    · exact h
    · rw [hp] at h; cases h
  refine callsO gA1_ok Tryz.mix Tryz.pl50 Tryz.func50 rfl Tryz.ntmps50 Tryz.results50 rfl (by first | rfl | assumption) (Nat.le_of_ble_eq_true rfl) (by kernel_rfl) ?_
  cases p with
  | none =>
    obtain rfl := e0 rfl
    simp only [push_cast, Nat.reduceAdd, Nat.reduceSub, Nat.reduceMul, Nat.reduceLT, Nat.reduceLeDiff, Nat.reduceEqDiff, Nat.reduceMod, Nat.reduceDiv, Int.reduceAdd, Int.reduceSub, Int.reduceMul, Int.reduceLT, Int.reduceLE, Int.reduceEq, Int.reduceNeg, Int.reduceToNat, reduceIte, reduceCtorEq, Int.reduceBEq, Int.reduceBNe]
    exact ⟨[], List.nil_sublist _, .inl ⟨rfl, rfl, rfl, rfl⟩⟩
  | some a =>
    simp only [push_cast, Nat.reduceAdd, Nat.reduceSub, Nat.reduceMul, Nat.reduceLT, Nat.reduceLeDiff, Nat.reduceEqDiff, Nat.reduceMod, Nat.reduceDiv, Int.reduceAdd, Int.reduceSub, Int.reduceMul, Int.reduceLT, Int.reduceLE, Int.reduceEq, Int.reduceNeg, Int.reduceToNat, reduceIte, reduceCtorEq, Int.reduceBEq, Int.reduceBNe]
    intro b hb
    have hsrc' := hsrc b ⟨hb, trivial⟩
    simp only [List.cons_append, List.nil_append] at hsrc'
    simp only [push_cast, Nat.reduceAdd, Nat.reduceSub, Nat.reduceMul, Nat.reduceLT, Nat.reduceLeDiff, Nat.reduceEqDiff, Nat.reduceMod, Nat.reduceDiv, Int.reduceAdd, Int.reduceSub, Int.reduceMul, Int.reduceLT, Int.reduceLE, Int.reduceEq, Int.reduceNeg, Int.reduceToNat, reduceIte, reduceCtorEq, Int.reduceBEq, Int.reduceBNe, hsrc', ha]
    refine ⟨by unfold two47; omega, fun b2 c2 hb2 hc2 => ?_⟩
    exact ⟨[_], (List.nil_sublist _).cons_cons _, .inr ⟨b2, c2, rfl, hc2, hlen, rfl⟩⟩
theorem cloneA_ok {M : Hp} {l : List (Ac × Value)} {v : Value} (hv : LiR acC 27 M l v) (h1 : ∀ x ∈ l, oneC x.2 = true) (hm : marksOf M = []) (hn : l.length ≤ 1000000000) : CallsV Tryz.prog 49 [v] M (OutG 44 27 (l.flatMap acC) l.length) := by
  have ha : (l.flatMap acC).all oneC = true := acAll h1
  have hlen := flatMap_len (c := acC) (s := 27) (fun y => acC_len y) l
  have hsrc := fun b e => (hv.app (N := [⟨b, 0, .vec 44 27 0, []⟩]) e).src (P := Tryz.prog) (xt := 33) (q := 27) (ag := true) (by simp only [push_cast, Nat.reduceAdd, Nat.reduceSub, Nat.reduceMul, Nat.reduceLT, Nat.reduceLeDiff, Nat.reduceEqDiff, Nat.reduceMod, Nat.reduceDiv, Int.reduceAdd, Int.reduceSub, Int.reduceMul, Int.reduceLT, Int.reduceLE, Int.reduceEq, Int.reduceNeg, Int.reduceToNat, reduceIte, reduceCtorEq, Int.reduceBEq, Int.reduceBNe])
  have hv' := hv
  obtain ⟨p, k, rfl, h0⟩ := hv'
  have e0 : p = none → l = [] := fun hp => by
    rcases h0 with h | ⟨b, o, h, -⟩
    · exact h
    · rw [hp] at h; cases h
  refine callsO gA1_ok Tryz.mix Tryz.pl49 Tryz.func49 rfl Tryz.ntmps49 Tryz.results49 rfl (by first | rfl | assumption) (Nat.le_of_ble_eq_true rfl) (by kernel_rfl) ?_
  cases p with
  | none =>
    obtain rfl := e0 rfl
    simp only [push_cast, Nat.reduceAdd, Nat.reduceSub, Nat.reduceMul, Nat.reduceLT, Nat.reduceLeDiff, Nat.reduceEqDiff, Nat.reduceMod, Nat.reduceDiv, Int.reduceAdd, Int.reduceSub, Int.reduceMul, Int.reduceLT, Int.reduceLE, Int.reduceEq, Int.reduceNeg, Int.reduceToNat, reduceIte, reduceCtorEq, Int.reduceBEq, Int.reduceBNe]
    exact ⟨[], List.nil_sublist _, .inl ⟨rfl, rfl, rfl, rfl⟩⟩
  | some a =>
    simp only [push_cast, Nat.reduceAdd, Nat.reduceSub, Nat.reduceMul, Nat.reduceLT, Nat.reduceLeDiff, Nat.reduceEqDiff, Nat.reduceMod, Nat.reduceDiv, Int.reduceAdd, Int.reduceSub, Int.reduceMul, Int.reduceLT, Int.reduceLE, Int.reduceEq, Int.reduceNeg, Int.reduceToNat, reduceIte, reduceCtorEq, Int.reduceBEq, Int.reduceBNe]
    intro b hb
    have hsrc' := hsrc b ⟨hb, trivial⟩
    simp only [List.cons_append, List.nil_append] at hsrc'
    simp only [push_cast, Nat.reduceAdd, Nat.reduceSub, Nat.reduceMul, Nat.reduceLT, Nat.reduceLeDiff, Nat.reduceEqDiff, Nat.reduceMod, Nat.reduceDiv, Int.reduceAdd, Int.reduceSub, Int.reduceMul, Int.reduceLT, Int.reduceLE, Int.reduceEq, Int.reduceNeg, Int.reduceToNat, reduceIte, reduceCtorEq, Int.reduceBEq, Int.reduceBNe, hsrc', ha]
    refine ⟨by unfold two47; omega, fun b2 c2 hb2 hc2 => ?_⟩
    exact ⟨[_], (List.nil_sublist _).cons_cons _, .inr ⟨b2, c2, rfl, hc2, hlen, rfl⟩⟩
theorem cloneC_ok {M : Hp} {l : List Ch} {v : Value} (hv : LiR Ch.cells 31 M l v) (hm : marksOf M = []) (hn : l.length ≤ 1000000000) : CallsV Tryz.prog 57 [v] M (OutG 31 31 (l.flatMap Ch.cells) l.length) := by
  have ha : (l.flatMap Ch.cells).all oneC = true := chAll l
  have hlen := flatMap_len (c := Ch.cells) (s := 31) (fun y => y.len) l
  have hsrc := fun b e => (hv.app (N := [⟨b, 0, .vec 31 31 0, []⟩]) e).src (P := Tryz.prog) (xt := 34) (q := 31) (ag := true) (by simp only [push_cast, Nat.reduceAdd, Nat.reduceSub, Nat.reduceMul, Nat.reduceLT, Nat.reduceLeDiff, Nat.reduceEqDiff, Nat.reduceMod, Nat.reduceDiv, Int.reduceAdd, Int.reduceSub, Int.reduceMul, Int.reduceLT, Int.reduceLE, Int.reduceEq, Int.reduceNeg, Int.reduceToNat, reduceIte, reduceCtorEq, Int.reduceBEq, Int.reduceBNe])
  have hv' := hv
  obtain ⟨p, k, rfl, h0⟩ := hv'
  have e0 : p = none → l = [] := fun hp => by
    rcases h0 with h | ⟨b, o, h, -⟩
    · exact h
    · rw [hp] at h; cases h
  refine callsO gA1_ok Tryz.mix Tryz.pl57 Tryz.func57 rfl Tryz.ntmps57 Tryz.results57 rfl (by first | rfl | assumption) (Nat.le_of_ble_eq_true rfl) (by kernel_rfl) ?_
  cases p with
  | none =>
    obtain rfl := e0 rfl
    simp only [push_cast, Nat.reduceAdd, Nat.reduceSub, Nat.reduceMul, Nat.reduceLT, Nat.reduceLeDiff, Nat.reduceEqDiff, Nat.reduceMod, Nat.reduceDiv, Int.reduceAdd, Int.reduceSub, Int.reduceMul, Int.reduceLT, Int.reduceLE, Int.reduceEq, Int.reduceNeg, Int.reduceToNat, reduceIte, reduceCtorEq, Int.reduceBEq, Int.reduceBNe]
    exact ⟨[], List.nil_sublist _, .inl ⟨rfl, rfl, rfl, rfl⟩⟩
  | some a =>
    simp only [push_cast, Nat.reduceAdd, Nat.reduceSub, Nat.reduceMul, Nat.reduceLT, Nat.reduceLeDiff, Nat.reduceEqDiff, Nat.reduceMod, Nat.reduceDiv, Int.reduceAdd, Int.reduceSub, Int.reduceMul, Int.reduceLT, Int.reduceLE, Int.reduceEq, Int.reduceNeg, Int.reduceToNat, reduceIte, reduceCtorEq, Int.reduceBEq, Int.reduceBNe]
    intro b hb
    have hsrc' := hsrc b ⟨hb, trivial⟩
    simp only [List.cons_append, List.nil_append] at hsrc'
    simp only [push_cast, Nat.reduceAdd, Nat.reduceSub, Nat.reduceMul, Nat.reduceLT, Nat.reduceLeDiff, Nat.reduceEqDiff, Nat.reduceMod, Nat.reduceDiv, Int.reduceAdd, Int.reduceSub, Int.reduceMul, Int.reduceLT, Int.reduceLE, Int.reduceEq, Int.reduceNeg, Int.reduceToNat, reduceIte, reduceCtorEq, Int.reduceBEq, Int.reduceBNe, hsrc', ha]
    refine ⟨by unfold two47; omega, fun b2 c2 hb2 hc2 => ?_⟩
    exact ⟨[_], (List.nil_sublist _).cons_cons _, .inr ⟨b2, c2, rfl, hc2, hlen, rfl⟩⟩
theorem cloneI_ok {M : Hp} {l : List Int} {v : Value} (hv : LiR intC 1 M l v) (hm : marksOf M = []) (hn : l.length ≤ 1000000000000) : CallsV Tryz.prog 58 [v] M (OutG 3 1 (l.flatMap intC) l.length) := by
  have ha : (l.flatMap intC).all oneC = true := intAll l
  have hlen := flatMap_len (c := intC) (s := 1) (fun y => rfl) l
  have hsrc := fun b e => (hv.app (N := [⟨b, 0, .vec 3 1 0, []⟩]) e).src (P := Tryz.prog) (xt := 35) (q := 1) (ag := false) (by simp only [push_cast, Nat.reduceAdd, Nat.reduceSub, Nat.reduceMul, Nat.reduceLT, Nat.reduceLeDiff, Nat.reduceEqDiff, Nat.reduceMod, Nat.reduceDiv, Int.reduceAdd, Int.reduceSub, Int.reduceMul, Int.reduceLT, Int.reduceLE, Int.reduceEq, Int.reduceNeg, Int.reduceToNat, reduceIte, reduceCtorEq, Int.reduceBEq, Int.reduceBNe])
  have hv' := hv
  obtain ⟨p, k, rfl, h0⟩ := hv'
  have e0 : p = none → l = [] := fun hp => by
    rcases h0 with h | ⟨b, o, h, -⟩
    · exact h
    · rw [hp] at h; cases h
  refine callsO gA1_ok Tryz.mix Tryz.pl58 Tryz.func58 rfl Tryz.ntmps58 Tryz.results58 rfl (by first | rfl | assumption) (Nat.le_of_ble_eq_true rfl) (by kernel_rfl) ?_
  cases p with
  | none =>
    obtain rfl := e0 rfl
    simp only [push_cast, Nat.reduceAdd, Nat.reduceSub, Nat.reduceMul, Nat.reduceLT, Nat.reduceLeDiff, Nat.reduceEqDiff, Nat.reduceMod, Nat.reduceDiv, Int.reduceAdd, Int.reduceSub, Int.reduceMul, Int.reduceLT, Int.reduceLE, Int.reduceEq, Int.reduceNeg, Int.reduceToNat, reduceIte, reduceCtorEq, Int.reduceBEq, Int.reduceBNe]
    exact ⟨[], List.nil_sublist _, .inl ⟨rfl, rfl, rfl, rfl⟩⟩
  | some a =>
    simp only [push_cast, Nat.reduceAdd, Nat.reduceSub, Nat.reduceMul, Nat.reduceLT, Nat.reduceLeDiff, Nat.reduceEqDiff, Nat.reduceMod, Nat.reduceDiv, Int.reduceAdd, Int.reduceSub, Int.reduceMul, Int.reduceLT, Int.reduceLE, Int.reduceEq, Int.reduceNeg, Int.reduceToNat, reduceIte, reduceCtorEq, Int.reduceBEq, Int.reduceBNe]
    intro b hb
    have hsrc' := hsrc b ⟨hb, trivial⟩
    simp only [List.cons_append, List.nil_append] at hsrc'
    simp only [push_cast, Nat.reduceAdd, Nat.reduceSub, Nat.reduceMul, Nat.reduceLT, Nat.reduceLeDiff, Nat.reduceEqDiff, Nat.reduceMod, Nat.reduceDiv, Int.reduceAdd, Int.reduceSub, Int.reduceMul, Int.reduceLT, Int.reduceLE, Int.reduceEq, Int.reduceNeg, Int.reduceToNat, reduceIte, reduceCtorEq, Int.reduceBEq, Int.reduceBNe, hsrc', ha]
    refine ⟨by unfold two47; omega, fun b2 c2 hb2 hc2 => ?_⟩
    exact ⟨[_], (List.nil_sublist _).cons_cons _, .inr ⟨b2, c2, rfl, hc2, hlen, rfl⟩⟩
theorem cloneS_R {M : Hp} {l : List Sl} {v : Value} (hv : LiR Sl.cells 8 M l v) (hn : l.length ≤ 1000000000000) : CallsR Tryz.prog 50 [v] M (fun u H => LiR Sl.cells 8 H l u) := fun M0 hr he =>
  (cloneS_ok (hv.congr he.symm) hr.marks hn).toK fun u N h => ⟨h.wr.1, h.wr.2, fun _ => h.liR rfl rfl M0⟩
theorem sown_ok {M : Hp} {x : Ac} {sv : Value} (hs : LiR Sl.cells 8 M x.slots sv) (hn : x.slots.length ≤ 1000000000000) : CallsR Tryz.prog 60 [.agg (x.cells sv).toArray] M (AcR x) := by
  intro M0 hr he
  have hm := hr.marks
  replace hs := hs.congr he.symm
  refine callsO gA1_ok Tryz.mix (fun i => if i = 1 then [(0, 9)] else Tryz.pl60 i) Tryz.func60 rfl Tryz.ntmps60 Tryz.results60 rfl (by first | rfl | assumption) (Nat.le_of_ble_eq_true rfl) (by kernel_rfl) ?_
  simp only [push_cast, Nat.reduceAdd, Nat.reduceSub, Nat.reduceMul, Nat.reduceLT, Nat.reduceLeDiff, Nat.reduceEqDiff, Nat.reduceMod, Nat.reduceDiv, Int.reduceAdd, Int.reduceSub, Int.reduceMul, Int.reduceLT, Int.reduceLE, Int.reduceEq, Int.reduceNeg, Int.reduceToNat, reduceIte, reduceCtorEq, Int.reduceBEq, Int.reduceBNe]
  intro b1 hb1 b2 hb2
  refine regO gA1_ok ?_
  have hL : freshN [⟨b2, 0, .cel 44, Ac.zeroC⟩, ⟨b1, 0, .cel 44, x.cells sv⟩] M0 := ⟨hb2.2.2, hb1, trivial⟩
  simp only [push_cast, Nat.reduceAdd, Nat.reduceSub, Nat.reduceMul, Nat.reduceLT, Nat.reduceLeDiff, Nat.reduceEqDiff, Nat.reduceMod, Nat.reduceDiv, Int.reduceAdd, Int.reduceSub, Int.reduceMul, Int.reduceLT, Int.reduceLE, Int.reduceEq, Int.reduceNeg, Int.reduceToNat, reduceIte, reduceCtorEq, Int.reduceBEq, Int.reduceBNe, hb2]
  refine useL [_, _] (cloneS_R hs hn) (LiR.rd _) hm hL fun v M' hg hL' hq => ?_
  obtain ⟨p, k, rfl⟩ := hq.slice
  simp only [push_cast, Nat.reduceAdd, Nat.reduceSub, Nat.reduceMul, Nat.reduceLT, Nat.reduceLeDiff, Nat.reduceEqDiff, Nat.reduceMod, Nat.reduceDiv, Int.reduceAdd, Int.reduceSub, Int.reduceMul, Int.reduceLT, Int.reduceLE, Int.reduceEq, Int.reduceNeg, Int.reduceToNat, reduceIte, reduceCtorEq, Int.reduceBEq, Int.reduceBNe, hb2]
  exact doneK2 [_, _] hg (AcR.rd x) ⟨_, rfl, hq⟩
end Go.Proofs.YtkhpncfgimlleaaGreat
set_option linter.unusedSimpArgs false
set_option linter.unusedVariables false
namespace Go.Ev
def StO (e : Nat) (s : List Ac) (v : Value) (N1 H : Hp) : Prop := ∃ L : List (Ac × Value), L.map (·.1) = s ∧ OutG e 27 (L.flatMap acC) L.length v N1 ∧ ∀ x ∈ L, LiR Sl.cells 8 H x.1.slots x.2
theorem StO.rd (e : Nat) (s : List Ac) : RdOwn (StO e s) := by
  rintro v N1 A B h ⟨L, h1, h2, h3⟩
  exact ⟨L, h1, h2, fun x hx => (h3 x hx).congr h⟩
theorem StO.r {e : Nat} {s : List Ac} {v : Value} {N1 H : Hp} (hf : freshN N1 H) (h : StO e s v N1 H) : StR s v (N1 ++ H) := by
  obtain ⟨L, h1, h2, h3⟩ := h
  exact ⟨L, h1, h2.liR rfl rfl H, fun x hx => (h3 x hx).app hf⟩
theorem subH_ins {A B : Hp} (h : freshN A B) : ∀ (N : Hp), subH (N ++ (A ++ B)) (N ++ B)
  | [] => by
    show subH (A ++ B) B
    induction A with
    | nil => exact subH_self B
    | cons a r ih =>
      rw [List.cons_append, subH_skip h.1]
      exact ih h.2
  | e :: r => ⟨by simp [findE], by simpa [remE] using subH_ins h r⟩
theorem acC_all {x : Ac × Value} (h : oneC x.2 = true) : (acC x).all oneC = true := x.1.all1 _ h
theorem acC_take (x : Ac × Value) : List.take 27 (acC x) = acC x := List.take_of_length_le (Nat.le_of_eq (acC_len x))
theorem acC_drop (x : Ac × Value) : List.drop 27 (acC x) = [] := List.drop_of_length_le (Nat.le_of_eq (acC_len x))
attribute [push_cast] acC_len acC_take acC_drop
theorem StR.open {s : List Ac} {v : Value} {H : Hp} (h : StR s v H) : ∃ (L : List (Ac × Value)) (p : Option Addr) (k : Nat), L.map (·.1) = s ∧ v = .slice p L.length k ∧ (∀ x ∈ L, LiR Sl.cells 8 H x.1.slots x.2) ∧ (L = [] ∨ ∃ b f d kd cs, p = some ⟨b, f + d, none⟩ ∧ findE H b = some ⟨b, f, kd, cs⟩ ∧
    ∀ i x, L[i]? = some x → (∀ q n, q + n ≤ 27 → d + i * 27 + q + n ≤ cs.length ∧ List.take n (List.drop (d + i * 27 + q) cs) = List.take n (List.drop q (acC x))) ∧ d + i * 27 + 27 ≤ cs.length ∧ List.take 27 (List.drop (d + i * 27) cs) = acC x ∧ oneC x.2 = true) := by
  obtain ⟨L, h1, h2, h3⟩ := h
  obtain ⟨p, k, rfl, h0⟩ := h2.open acC_len (by decide)
  refine ⟨L, p, k, h1, rfl, h3, ?_⟩
  rcases h0 with h0 | ⟨b, f, d, kd, cs, rfl, he, hat, -, -⟩
  · exact .inl h0
  · refine .inr ⟨b, f, d, kd, cs, rfl, he, fun i x hx => ⟨hat i x hx, ?_⟩⟩
    have := hat i x hx 0 27 (by decide)
    rw [List.drop_zero, acC_take, Nat.add_zero] at this
    exact ⟨this.1, this.2, (h3 x (List.mem_of_getElem? hx)).one⟩
end Go.Ev
namespace Go.Proofs.YtkhpncfgimlleaaGreat
open Go Go.Ev Go.Proofs
set_option maxRecDepth 100000
set_option maxHeartbeats 4000000
theorem push_ac {e' s' : Nat} (A : Hp) {B : List (Ac × Value)} {x : Ac} {p : Option Addr} {n0 k0 : Nat} {v : Value} {N X : Hp} {b k : Nat} {K : Value → Hp → Prop} (ho : OutC 44 27 (B.flatMap acC) B.length v N) (hA : freshN (⟨b, 0, .vec e' s' 1, x.cells (Value.slice p n0 k0)⟩ :: A) N) (hn : B.length ≤ 1000000000)
    (hk : ∀ v' N', OutC 44 27 ((B ++ [(x, Value.slice p n0 k0)]).flatMap acC) (B ++ [(x, Value.slice p n0 k0)]).length v' N' → freshN N' (⟨b, 0, .vec e' s' 1, x.cells (Value.slice p n0 k0)⟩ :: (A ++ X)) → K v' (N' ++ ⟨b, 0, .vec e' s' 1, x.cells (Value.slice p n0 k0)⟩ :: (A ++ X))) :
    evAppend Tryz.prog (⟨b, 0, .vec e' s' 1, x.cells (Value.slice p n0 k0)⟩ :: (A ++ (N ++ X))) 33 33 v (.slice (some ⟨b, 0, none⟩) 1 k) K :=
  push_outA A (c := acC) (x := (x, Value.slice p n0 k0)) (by_ := 104) (q := 27) (ag := true) ho hA (by simp only [push_cast, Nat.reduceAdd, Nat.reduceSub, Nat.reduceMul, Nat.reduceLT, Nat.reduceLeDiff, Nat.reduceEqDiff, Nat.reduceMod, Nat.reduceDiv, Int.reduceAdd, Int.reduceSub, Int.reduceMul, Int.reduceLT, Int.reduceLE, Int.reduceEq, Int.reduceNeg, Int.reduceToNat, reduceIte, reduceCtorEq, Int.reduceBEq, Int.reduceBNe]) (by simp only [push_cast, Nat.reduceAdd, Nat.reduceSub, Nat.reduceMul, Nat.reduceLT, Nat.reduceLeDiff, Nat.reduceEqDiff, Nat.reduceMod, Nat.reduceDiv, Int.reduceAdd, Int.reduceSub, Int.reduceMul, Int.reduceLT, Int.reduceLE, Int.reduceEq, Int.reduceNeg, Int.reduceToNat, reduceIte, reduceCtorEq, Int.reduceBEq, Int.reduceBNe]) (acC_len _) (acC_all rfl) (by unfold two47; omega) hk
theorem refOwn_ok {M : Hp} {s : List Ac} {v : Value} (hv : StR s v M) (hn : s.length ≤ 1000000000) (hs : ∀ x ∈ s, x.slots.length ≤ 1000000000000) : CallsW Tryz.prog 10 [v] M (StO 44 s) := by
  intro M0 hr he
  have hm := hr.marks
  replace hv := StR.rd _ _ _ _ he.symm hv
  obtain ⟨L, p, k, rfl, rfl, hsl, hl⟩ := hv.open
  have hlen : (L.map (·.1)).length = L.length := List.length_map _
  rw [hlen] at hn
  refine callsO gA1_ok Tryz.mix Tryz.pl10 Tryz.func10 rfl Tryz.ntmps10 Tryz.results10 rfl (by first | rfl | assumption) (Nat.le_of_ble_eq_true rfl) (by kernel_rfl) ?_
  simp only [push_cast, Nat.reduceAdd, Nat.reduceSub, Nat.reduceMul, Nat.reduceLT, Nat.reduceLeDiff, Nat.reduceEqDiff, Nat.reduceMod, Nat.reduceDiv, Int.reduceAdd, Int.reduceSub, Int.reduceMul, Int.reduceLT, Int.reduceLE, Int.reduceEq, Int.reduceNeg, Int.reduceToNat, reduceIte, reduceCtorEq, Int.reduceBEq, Int.reduceBNe]
  refine loopO gA1_ok (pl := Tryz.pl10) Tryz.mix (X := Nat × List (Ac × Value) × Value × Hp × Hp)
    (fun x => ([(0, .slice p L.length k), (3, x.2.2.1), (4, .int .i64 x.1)], x.2.2.2.1 ++ x.2.2.2.2))
    (fun x => x.1 ≤ L.length ∧ x.2.1.map (·.1) = (L.take x.1).map (·.1) ∧ OutC 44 27 (x.2.1.flatMap acC) x.2.1.length x.2.2.1 x.2.2.2.1 ∧ Gr M0 x.2.2.2.2 ∧ freshN x.2.2.2.1 x.2.2.2.2 ∧ ∀ y ∈ x.2.1, LiR Sl.cells 8 x.2.2.2.2 y.1.slots y.2)
    (fun x => L.length - x.1) (0, [], .slice none 0 0, [], M0) ?_ ?_ (by kernel_rfl) ?_
  · exact ⟨Nat.zero_le _, rfl, OutC.nil _ _, Gr.refl hm, trivial, fun y hy => by cases hy⟩
  · simp only [push_cast, Nat.reduceAdd, Nat.reduceSub, Nat.reduceMul, Nat.reduceLT, Nat.reduceLeDiff, Nat.reduceEqDiff, Nat.reduceMod, Nat.reduceDiv, Int.reduceAdd, Int.reduceSub, Int.reduceMul, Int.reduceLT, Int.reduceLE, Int.reduceEq, Int.reduceNeg, Int.reduceToNat, reduceIte, reduceCtorEq, Int.reduceBEq, Int.reduceBNe]
  · rintro ⟨i, B, u, N, M1⟩ ⟨hi, hB, ho, hg, hf, hsB⟩
    dsimp only at hi hB ho hg hf hsB ⊢
    have hBl : B.length = i := by have := congrArg List.length hB; simpa [Nat.min_eq_left hi] using this
    rcases Nat.lt_or_ge i L.length with hlt | hge
    · obtain h0 | ⟨b, f, d, kd, cs, rfl, hfe, hat⟩ := hl
      · rw [h0] at hlt; exact absurd hlt (Nat.not_lt_zero _)
      obtain ⟨x, hx⟩ : ∃ x, L[i]? = some x := ⟨L[i], List.getElem?_eq_getElem hlt⟩
      obtain ⟨-, a1, a2, a3⟩ := hat i x hx
      have hfe1 : findE (N ++ M1) b = some ⟨b, f, kd, cs⟩ := by
        have := hg.find hfe
        rw [findE_freshN hf this]; exact this
      have i1 : (i : Int) < (L.length : Int) := by omega
      have al1 := acC_all a3
      simp only [push_cast, Nat.reduceAdd, Nat.reduceSub, Nat.reduceMul, Nat.reduceLT, Nat.reduceLeDiff, Nat.reduceEqDiff, Nat.reduceMod, Nat.reduceDiv, Int.reduceAdd, Int.reduceSub, Int.reduceMul, Int.reduceLT, Int.reduceLE, Int.reduceEq, Int.reduceNeg, Int.reduceToNat, reduceIte, reduceCtorEq, Int.reduceBEq, Int.reduceBNe, i1, hlt, hfe1, a1, a2]
      have hxm := List.mem_of_getElem? hx
      refine useL N (refown_ok ((hsl x hxm).ext hg.ext) (hs _ (List.mem_map_of_mem hxm))) (AcR.rd _) hg.marks hf fun w M2 hg2 hf2 hq => ?_
      obtain ⟨sv, rfl, hsv⟩ := hq
      obtain ⟨ps, ks, rfl⟩ := hsv.slice
      simp only [push_cast, Nat.reduceAdd, Nat.reduceSub, Nat.reduceMul, Nat.reduceLT, Nat.reduceLeDiff, Nat.reduceEqDiff, Nat.reduceMod, Nat.reduceDiv, Int.reduceAdd, Int.reduceSub, Int.reduceMul, Int.reduceLT, Int.reduceLE, Int.reduceEq, Int.reduceNeg, Int.reduceToNat, reduceIte, reduceCtorEq, Int.reduceBEq, Int.reduceBNe]
      intro b5 hb5
      refine push_ac [] ho ⟨(fresh_app_iff.1 hb5).1, trivial⟩ (by omega) fun u' N' ho' hf' => ?_
      simp only [push_cast, Nat.reduceAdd, Nat.reduceSub, Nat.reduceMul, Nat.reduceLT, Nat.reduceLeDiff, Nat.reduceEqDiff, Nat.reduceMod, Nat.reduceDiv, Int.reduceAdd, Int.reduceSub, Int.reduceMul, Int.reduceLT, Int.reduceLE, Int.reduceEq, Int.reduceNeg, Int.reduceToNat, reduceIte, reduceCtorEq, Int.reduceBEq, Int.reduceBNe, wrap_i64' (show -9223372036854775808 ≤ (i : Int) + 1 ∧ (i : Int) + 1 ≤ 9223372036854775807 by omega)]
      have hf5 : fresh b5 M2 := (fresh_app_iff.1 hb5).2
      refine ⟨(i + 1, B ++ [(x.1, Value.slice ps x.1.slots.length ks)], u', N', M2), ⟨hlt, ?_, ho', hg.trans hg2, freshN_cons hf', ?_⟩, by dsimp only; omega, ?_⟩
      · rw [List.map_append, hB, List.take_add_one, hx, List.map_append]; rfl
      · intro y hy
        rcases List.mem_append.1 hy with hy | hy
        · exact (hsB y hy).ext hg2.ext
        · rw [List.mem_singleton.1 hy]; exact hsv
      · simp only [push_cast, Nat.reduceAdd, Nat.reduceSub, Nat.reduceMul, Nat.reduceLT, Nat.reduceLeDiff, Nat.reduceEqDiff, Nat.reduceMod, Nat.reduceDiv, Int.reduceAdd, Int.reduceSub, Int.reduceMul, Int.reduceLT, Int.reduceLE, Int.reduceEq, Int.reduceNeg, Int.reduceToNat, reduceIte, reduceCtorEq, Int.reduceBEq, Int.reduceBNe]
        exact ⟨subH_ins (A := [_]) ⟨hf5, trivial⟩ N', by simp [marks_append, marksOf]⟩
    · obtain rfl : i = L.length := by omega
      simp only [push_cast, Nat.reduceAdd, Nat.reduceSub, Nat.reduceMul, Nat.reduceLT, Nat.reduceLeDiff, Nat.reduceEqDiff, Nat.reduceMod, Nat.reduceDiv, Int.reduceAdd, Int.reduceSub, Int.reduceMul, Int.reduceLT, Int.reduceLE, Int.reduceEq, Int.reduceNeg, Int.reduceToNat, reduceIte, reduceCtorEq, Int.reduceBEq, Int.reduceBNe, Nat.lt_irrefl, Int.lt_irrefl]
      exact doneN [] hg ho.wr.1 ho.wr.2 hf (StO.rd _ _) ⟨B, hB.trans (by rw [List.take_length]), ho.g, hsB⟩
theorem mapped_ok {M : Hp} {s : List Ac} {v : Value} (hv : StR s v M) (hn : s.length ≤ 1000000000) (hs : ∀ x ∈ s, x.slots.length ≤ 1000000000000) : CallsW Tryz.prog 59 [v, .func (.func 60) #[] #[]] M (StO 44 s) := by
  intro M0 hr he
  have hm := hr.marks
  replace hv := StR.rd _ _ _ _ he.symm hv
  obtain ⟨L, p, k, rfl, rfl, hsl, hl⟩ := hv.open
  have hlen : (L.map (·.1)).length = L.length := List.length_map _
  rw [hlen] at hn
  refine callsO gA1_ok Tryz.mix Tryz.pl59 Tryz.func59 rfl Tryz.ntmps59 Tryz.results59 rfl (by first | rfl | assumption) (Nat.le_of_ble_eq_true rfl) (by kernel_rfl) ?_
  simp only [push_cast, Nat.reduceAdd, Nat.reduceSub, Nat.reduceMul, Nat.reduceLT, Nat.reduceLeDiff, Nat.reduceEqDiff, Nat.reduceMod, Nat.reduceDiv, Int.reduceAdd, Int.reduceSub, Int.reduceMul, Int.reduceLT, Int.reduceLE, Int.reduceEq, Int.reduceNeg, Int.reduceToNat, reduceIte, reduceCtorEq, Int.reduceBEq, Int.reduceBNe]
  refine loopO gA1_ok (pl := Tryz.pl59) Tryz.mix (X := Nat × List (Ac × Value) × Value × Hp × Hp)
    (fun x => ([(1, .func (.func 60) #[] #[]), (5, x.2.2.1), (8, .slice p L.length k), (9, .int .i64 L.length), (10, .int .i64 x.1)], x.2.2.2.1 ++ x.2.2.2.2))
    (fun x => x.1 ≤ L.length ∧ x.2.1.map (·.1) = (L.take x.1).map (·.1) ∧ OutC 44 27 (x.2.1.flatMap acC) x.2.1.length x.2.2.1 x.2.2.2.1 ∧ Gr M0 x.2.2.2.2 ∧ freshN x.2.2.2.1 x.2.2.2.2 ∧ ∀ y ∈ x.2.1, LiR Sl.cells 8 x.2.2.2.2 y.1.slots y.2)
    (fun x => L.length - x.1) (0, [], .slice none 0 0, [], M0) ?_ ?_ (by kernel_rfl) ?_
  · exact ⟨Nat.zero_le _, rfl, OutC.nil _ _, Gr.refl hm, trivial, fun y hy => by cases hy⟩
  · simp only [push_cast, Nat.reduceAdd, Nat.reduceSub, Nat.reduceMul, Nat.reduceLT, Nat.reduceLeDiff, Nat.reduceEqDiff, Nat.reduceMod, Nat.reduceDiv, Int.reduceAdd, Int.reduceSub, Int.reduceMul, Int.reduceLT, Int.reduceLE, Int.reduceEq, Int.reduceNeg, Int.reduceToNat, reduceIte, reduceCtorEq, Int.reduceBEq, Int.reduceBNe]
  · rintro ⟨i, B, u, N, M1⟩ ⟨hi, hB, ho, hg, hf, hsB⟩
    dsimp only at hi hB ho hg hf hsB ⊢
    have hBl : B.length = i := by have := congrArg List.length hB; simpa [Nat.min_eq_left hi] using this
    rcases Nat.lt_or_ge i L.length with hlt | hge
    · obtain h0 | ⟨b, f, d, kd, cs, rfl, hfe, hat⟩ := hl
      · rw [h0] at hlt; exact absurd hlt (Nat.not_lt_zero _)
      obtain ⟨x, hx⟩ : ∃ x, L[i]? = some x := ⟨L[i], List.getElem?_eq_getElem hlt⟩
      obtain ⟨-, a1, a2, a3⟩ := hat i x hx
      have hfe1 : findE (N ++ M1) b = some ⟨b, f, kd, cs⟩ := by
        have := hg.find hfe
        rw [findE_freshN hf this]; exact this
      have i1 : (i : Int) < (L.length : Int) := by omega
      have al1 := acC_all a3
      simp only [push_cast, Nat.reduceAdd, Nat.reduceSub, Nat.reduceMul, Nat.reduceLT, Nat.reduceLeDiff, Nat.reduceEqDiff, Nat.reduceMod, Nat.reduceDiv, Int.reduceAdd, Int.reduceSub, Int.reduceMul, Int.reduceLT, Int.reduceLE, Int.reduceEq, Int.reduceNeg, Int.reduceToNat, reduceIte, reduceCtorEq, Int.reduceBEq, Int.reduceBNe, i1, hlt, hfe1, a1, a2, al1]
      intro b4 hb4
      have hb4' := fresh_app_iff.1 hb4
      have hxm := List.mem_of_getElem? hx
      refine useL (⟨b4, 0, .cel 44, acC x⟩ :: N) (sown_ok ((hsl x hxm).ext hg.ext) (hs _ (List.mem_map_of_mem hxm))) (AcR.rd _) hg.marks ⟨hb4'.2, hf⟩ fun w M2 hg2 hf2 hq => ?_
      obtain ⟨sv, rfl, hsv⟩ := hq
      obtain ⟨ps, ks, rfl⟩ := hsv.slice
      simp only [push_cast, Nat.reduceAdd, Nat.reduceSub, Nat.reduceMul, Nat.reduceLT, Nat.reduceLeDiff, Nat.reduceEqDiff, Nat.reduceMod, Nat.reduceDiv, Int.reduceAdd, Int.reduceSub, Int.reduceMul, Int.reduceLT, Int.reduceLE, Int.reduceEq, Int.reduceNeg, Int.reduceToNat, reduceIte, reduceCtorEq, Int.reduceBEq, Int.reduceBNe]
      intro b5 hb5q; have hb5 := hb5q.2.2
      have hb5' := fresh_app_iff.1 hb5
      refine push_ac [⟨b4, 0, .cel 44, acC x⟩] ho ⟨hb5'.1, hb4'.1, trivial⟩ (by omega) fun u' N' ho' hf' => ?_
      simp only [push_cast, Nat.reduceAdd, Nat.reduceSub, Nat.reduceMul, Nat.reduceLT, Nat.reduceLeDiff, Nat.reduceEqDiff, Nat.reduceMod, Nat.reduceDiv, Int.reduceAdd, Int.reduceSub, Int.reduceMul, Int.reduceLT, Int.reduceLE, Int.reduceEq, Int.reduceNeg, Int.reduceToNat, reduceIte, reduceCtorEq, Int.reduceBEq, Int.reduceBNe, wrap_i64' (show -9223372036854775808 ≤ (i : Int) + 1 ∧ (i : Int) + 1 ≤ 9223372036854775807 by omega)]
      refine ⟨(i + 1, B ++ [(x.1, Value.slice ps x.1.slots.length ks)], u', N', M2), ⟨hlt, ?_, ho', hg.trans hg2, freshN_cons (freshN_cons hf'), ?_⟩, by dsimp only; omega, ?_⟩
      · rw [List.map_append, hB, List.take_add_one, hx, List.map_append]; rfl
      · intro y hy
        rcases List.mem_append.1 hy with hy | hy
        · exact (hsB y hy).ext hg2.ext
        · rw [List.mem_singleton.1 hy]; exact hsv
      · simp only [push_cast, Nat.reduceAdd, Nat.reduceSub, Nat.reduceMul, Nat.reduceLT, Nat.reduceLeDiff, Nat.reduceEqDiff, Nat.reduceMod, Nat.reduceDiv, Int.reduceAdd, Int.reduceSub, Int.reduceMul, Int.reduceLT, Int.reduceLE, Int.reduceEq, Int.reduceNeg, Int.reduceToNat, reduceIte, reduceCtorEq, Int.reduceBEq, Int.reduceBNe]
        exact ⟨subH_ins (A := [_, _]) ⟨hb5'.2, hf2.1, trivial⟩ N', by simp [marks_append, marksOf]⟩
    · obtain rfl : i = L.length := by omega
      simp only [push_cast, Nat.reduceAdd, Nat.reduceSub, Nat.reduceMul, Nat.reduceLT, Nat.reduceLeDiff, Nat.reduceEqDiff, Nat.reduceMod, Nat.reduceDiv, Int.reduceAdd, Int.reduceSub, Int.reduceMul, Int.reduceLT, Int.reduceLE, Int.reduceEq, Int.reduceNeg, Int.reduceToNat, reduceIte, reduceCtorEq, Int.reduceBEq, Int.reduceBNe, Nat.lt_irrefl, Int.lt_irrefl]
      exact doneN [] hg ho.wr.1 ho.wr.2 hf (StO.rd _ _) ⟨B, hB.trans (by rw [List.take_length]), ho.g, hsB⟩
end Go.Proofs.YtkhpncfgimlleaaGreat
set_option linter.unusedSimpArgs false
set_option linter.unusedVariables false
namespace Go.Ev
theorem acC_at {B R : List (Ac × Value)} {x : Ac × Value} : List.take 1 (List.drop (B.length * 27 + 26) ((B ++ x :: R).flatMap acC)) = [x.2] ∧ B.length * 27 + 26 + 1 ≤ ((B ++ x :: R).flatMap acC).length := by
  have hb : (B.flatMap acC).length = B.length * 27 := flatMap_len acC_len B
  have hx : (acC x).length = 27 := acC_len x
  rw [List.flatMap_append, List.flatMap_cons, ← hb, List.drop_length_add_append, List.drop_append_of_le_length (by omega), List.take_append_of_le_length (by rw [List.length_drop]; omega)]
  refine ⟨(x.1.get x.2).2.2.2.2.1, ?_⟩
  simp only [List.length_append]
  omega
theorem acC_set {B R : List (Ac × Value)} {x : Ac × Value} {sv : Value} : List.take (B.length * 27 + 26) ((B ++ x :: R).flatMap acC) ++ sv :: List.drop (B.length * 27 + 26 + 1) ((B ++ x :: R).flatMap acC) = ((B ++ [(x.1, sv)]) ++ R).flatMap acC := by
  have hb : (B.flatMap acC).length = B.length * 27 := flatMap_len acC_len B
  have hx : (acC x).length = 27 := acC_len x
  rw [List.flatMap_append, List.flatMap_cons, ← hb, List.take_length_add_append, Nat.add_assoc, List.drop_length_add_append, List.take_append_of_le_length (by omega), List.drop_append_of_le_length (by omega)]
  have := x.1.set26 x.2 sv
  rw [show List.drop (26 + 1) (acC x) = List.drop 27 (x.1.cells x.2) from rfl, show List.take 26 (acC x) = List.take 26 (x.1.cells x.2) from rfl]
  rw [List.append_assoc, ← List.cons_append, ← List.append_assoc, ← List.append_assoc, List.flatMap_append, List.flatMap_append, List.flatMap_cons, List.flatMap_nil, List.append_nil, List.append_assoc (B.flatMap acC), this]
  rfl
end Go.Ev
namespace Go.Proofs.YtkhpncfgimlleaaGreat
open Go Go.Ev Go.Proofs
set_option maxRecDepth 100000
set_option maxHeartbeats 4000000
theorem copied_ok {M : Hp} {s : List Ac} {v : Value} (hv : StR s v M) (hn : s.length ≤ 1000000000) (hs : ∀ x ∈ s, x.slots.length ≤ 1000000000000) : CallsW Tryz.prog 34 [v] M (StO 44 s) := by
  intro M0 hr he
  have hm := hr.marks
  replace hv := StR.rd _ _ _ _ he.symm hv
  obtain ⟨L, rfl, hl, hsl⟩ := hv
  have hlen : (L.map (·.1)).length = L.length := List.length_map _
  rw [hlen] at hn
  refine callsO gA1_ok Tryz.mix Tryz.pl34 Tryz.func34 rfl Tryz.ntmps34 Tryz.results34 rfl (by first | rfl | assumption) (Nat.le_of_ble_eq_true rfl) (by kernel_rfl) ?_
  simp only [push_cast, Nat.reduceAdd, Nat.reduceSub, Nat.reduceMul, Nat.reduceLT, Nat.reduceLeDiff, Nat.reduceEqDiff, Nat.reduceMod, Nat.reduceDiv, Int.reduceAdd, Int.reduceSub, Int.reduceMul, Int.reduceLT, Int.reduceLE, Int.reduceEq, Int.reduceNeg, Int.reduceToNat, reduceIte, reduceCtorEq, Int.reduceBEq, Int.reduceBNe]
  refine useN [] (Q := fun u N1 H => OutG 44 27 (L.flatMap acC) L.length u N1) (fun M1 hr1 he1 => ?_) (fun _ _ _ _ _ h => h) hm trivial fun v N M1 hg hf _ hw hm1 hq => ?_
  · exact (cloneA_ok (hl.congr he1.symm) (fun x hx => (hsl x hx).one) hr1.marks hn).toK fun u N h => ⟨N, [], by simp, h.wr.1, h.wr.2, trivial, rfl, freshN_nil _, fun _ => h⟩
  rw [List.nil_append] at hf ⊢
  obtain ⟨p, c, rfl⟩ := hq.slice
  simp only [push_cast, Nat.reduceAdd, Nat.reduceSub, Nat.reduceMul, Nat.reduceLT, Nat.reduceLeDiff, Nat.reduceEqDiff, Nat.reduceMod, Nat.reduceDiv, Int.reduceAdd, Int.reduceSub, Int.reduceMul, Int.reduceLT, Int.reduceLE, Int.reduceEq, Int.reduceNeg, Int.reduceToNat, reduceIte, reduceCtorEq, Int.reduceBEq, Int.reduceBNe]
  refine loopO gA1_ok (pl := Tryz.pl34) Tryz.mix (X := Nat × List (Ac × Value) × Hp × Hp)
    (fun x => ([(0, .slice p L.length c), (7, .int .i64 L.length), (8, .int .i64 x.1)], x.2.2.1 ++ x.2.2.2))
    (fun x => x.1 ≤ L.length ∧ x.2.1.map (·.1) = (L.take x.1).map (·.1) ∧ OutG 44 27 ((x.2.1 ++ L.drop x.1).flatMap acC) L.length (.slice p L.length c) x.2.2.1 ∧ Gr M0 x.2.2.2 ∧ freshN x.2.2.1 x.2.2.2 ∧ ∀ y ∈ x.2.1, LiR Sl.cells 8 x.2.2.2 y.1.slots y.2)
    (fun x => L.length - x.1) (0, [], N, M1) ?_ ?_ (by kernel_rfl) ?_
  · exact ⟨Nat.zero_le _, rfl, hq, hg, hf, fun y hy => by cases hy⟩
  · simp only [push_cast, Nat.reduceAdd, Nat.reduceSub, Nat.reduceMul, Nat.reduceLT, Nat.reduceLeDiff, Nat.reduceEqDiff, Nat.reduceMod, Nat.reduceDiv, Int.reduceAdd, Int.reduceSub, Int.reduceMul, Int.reduceLT, Int.reduceLE, Int.reduceEq, Int.reduceNeg, Int.reduceToNat, reduceIte, reduceCtorEq, Int.reduceBEq, Int.reduceBNe]
  · rintro ⟨i, B, N, M1⟩ ⟨hi, hB, ho, hg, hf, hsB⟩
    dsimp only at hi hB ho hg hf hsB ⊢
    have hBl : B.length = i := by have := congrArg List.length hB; simpa [Nat.min_eq_left hi] using this
    rcases Nat.lt_or_ge i L.length with hlt | hge
    · rcases ho with ⟨h0, -⟩ | ⟨b, c0, hvv, hc, hcl, rfl⟩
      · omega
      cases hvv
      obtain ⟨x, hx⟩ : ∃ x, L[i]? = some x := ⟨L[i], List.getElem?_eq_getElem hlt⟩
      have hd : L.drop i = x :: L.drop (i + 1) := by
        rw [List.drop_eq_getElem_cons hlt, (List.getElem?_eq_some_iff.1 hx).2]
      rw [hd] at hcl ⊢
      obtain ⟨a1, a2⟩ := acC_at (B := B) (R := L.drop (i + 1)) (x := x)
      have a3 := fun sv => acC_set (B := B) (R := L.drop (i + 1)) (x := x) (sv := sv)
      rw [hBl] at a1 a2 a3
      have i1 : (i : Int) < (L.length : Int) := by omega
      have hxm := List.mem_of_getElem? hx
      simp only [push_cast, Nat.reduceAdd, Nat.reduceSub, Nat.reduceMul, Nat.reduceLT, Nat.reduceLeDiff, Nat.reduceEqDiff, Nat.reduceMod, Nat.reduceDiv, Int.reduceAdd, Int.reduceSub, Int.reduceMul, Int.reduceLT, Int.reduceLE, Int.reduceEq, Int.reduceNeg, Int.reduceToNat, reduceIte, reduceCtorEq, Int.reduceBEq, Int.reduceBNe, i1, hlt, a1, a2]
      refine useL [_] (cloneS_R ((hsl x hxm).ext hg.ext) (hs _ (List.mem_map_of_mem hxm))) (LiR.rd _) hg.marks hf fun w M2 hg2 hf2 hq2 => ?_
      obtain ⟨ps, ks, rfl⟩ := hq2.slice
      simp only [push_cast, Nat.reduceAdd, Nat.reduceSub, Nat.reduceMul, Nat.reduceLT, Nat.reduceLeDiff, Nat.reduceEqDiff, Nat.reduceMod, Nat.reduceDiv, Int.reduceAdd, Int.reduceSub, Int.reduceMul, Int.reduceLT, Int.reduceLE, Int.reduceEq, Int.reduceNeg, Int.reduceToNat, reduceIte, reduceCtorEq, Int.reduceBEq, Int.reduceBNe, hlt, a1, a2, a3, wrap_i64' (show -9223372036854775808 ≤ (i : Int) + 1 ∧ (i : Int) + 1 ≤ 9223372036854775807 by omega)]
      have ea : B ++ (x.1, Value.slice ps x.1.slots.length ks) :: L.drop (i + 1) = (B ++ [(x.1, Value.slice ps x.1.slots.length ks)]) ++ L.drop (i + 1) := by simp
      refine ⟨(i + 1, B ++ [(x.1, Value.slice ps x.1.slots.length ks)], [⟨b, 0, .vec 44 27 c, (B ++ (x.1, Value.slice ps x.1.slots.length ks) :: L.drop (i + 1)).flatMap acC⟩], M2), ⟨hlt, ?_, .inr ⟨b, c, rfl, hc, ?_, by rw [ea]⟩, hg.trans hg2, hf2, ?_⟩, by dsimp only; omega, rfl, subH_self _, rfl⟩
      · rw [List.map_append, hB, List.take_add_one, hx, List.map_append]; rfl
      · rw [flatMap_len acC_len]
        simp only [List.length_append, List.length_cons, List.length_drop, hBl, List.length_nil]
        congr 1; omega
      · intro y hy
        rcases List.mem_append.1 hy with hy | hy
        · exact (hsB y hy).ext hg2.ext
        · rw [List.mem_singleton.1 hy]; exact hq2
    · obtain rfl : i = L.length := by omega
      rw [List.drop_length, List.append_nil] at ho
      simp only [push_cast, Nat.reduceAdd, Nat.reduceSub, Nat.reduceMul, Nat.reduceLT, Nat.reduceLeDiff, Nat.reduceEqDiff, Nat.reduceMod, Nat.reduceDiv, Int.reduceAdd, Int.reduceSub, Int.reduceMul, Int.reduceLT, Int.reduceLE, Int.reduceEq, Int.reduceNeg, Int.reduceToNat, reduceIte, reduceCtorEq, Int.reduceBEq, Int.reduceBNe, Nat.lt_irrefl, Int.lt_irrefl]
      exact doneN [] hg ho.wr.1 ho.wr.2 hf (StO.rd _ _) ⟨B, hB.trans (by rw [List.take_length]), by rw [hBl]; exact ho, hsB⟩
end Go.Proofs.YtkhpncfgimlleaaGreat
set_option linter.unusedSimpArgs false
set_option linter.unusedVariables false
namespace Go.Ev
theorem eqC_bytes : ∀ (a b : List UInt8), a.length = b.length → eqC (List.replicate a.length .i) (byteV a) (byteV b) = some (a == b)
  | [], [], _ => rfl
  | [], _ :: _, h => by cases h
  | _ :: _, [], h => by cases h
  | x :: r, y :: t, h => by
    have ih := eqC_bytes r t (by simpa using h)
    simp only [byteV, List.map_cons, List.length_cons, List.replicate_succ, eqC, if_true]
    simp only [byteV] at ih
    rw [ih]
    simp only [Option.map_some, Option.some.injEq]
    rw [List.cons_beq_cons]
    congr 1
    by_cases hxy : x = y
    · rw [hxy, beq_self_eq_true, beq_self_eq_true]
    · rw [beq_eq_false_iff_ne.2 hxy, beq_eq_false_iff_ne.2 (fun h => hxy (UInt8.toNat_inj.1 (by omega)))]
theorem eqC_cat : ∀ {k1 k2 : List CK} {x1 x2 y1 y2 : List Value} {r1 r2 : Bool}, eqC k1 x1 y1 = some r1 → eqC k2 x2 y2 = some r2 → eqC (k1 ++ k2) (x1 ++ x2) (y1 ++ y2) = some (r1 && r2)
  | [], k2, [], x2, [], y2, r1, r2, h1, h2 => by
    simp only [eqC, Option.some.injEq] at h1
    subst h1
    simpa using h2
  | [], _, _ :: _, _, _, _, _, _, h, _ => by simp [eqC] at h
  | [], _, [], _, _ :: _, _, _, _, h, _ => by simp [eqC] at h
  | k :: ks, _, [], _, _, _, _, _, h, _ => by cases k <;> simp [eqC] at h
  | k :: ks, _, x :: xs, _, [], _, _, _, h, _ => by cases k <;> cases x <;> simp [eqC] at h
  | k :: ks, k2, x :: xs, x2, y :: ys, y2, r1, r2, h1, h2 => by
    cases k <;> cases x <;> cases y <;> simp only [eqC, reduceCtorEq] at h1
    case b.bool.bool a b =>
      cases hh : eqC ks xs ys with
      | none => simp [hh] at h1
      | some r =>
        simp only [hh, Option.map_some, Option.some.injEq] at h1
        rw [List.cons_append, List.cons_append, List.cons_append, eqC, eqC_cat hh h2, ← h1]
        simp [Bool.and_assoc]
    case i.int.int k a k' b =>
      split at h1
      · rename_i hk
        cases hh : eqC ks xs ys with
        | none => simp [hh] at h1
        | some r =>
          simp only [hh, Option.map_some, Option.some.injEq] at h1
          rw [List.cons_append, List.cons_append, List.cons_append, eqC, if_pos hk, eqC_cat hh h2, ← h1]
          simp [Bool.and_assoc]
      · cases h1
    case s.string.string a b =>
      cases hh : eqC ks xs ys with
      | none => simp [hh] at h1
      | some r =>
        simp only [hh, Option.map_some, Option.some.injEq] at h1
        rw [List.cons_append, List.cons_append, List.cons_append, eqC, eqC_cat hh h2, ← h1]
        simp [Bool.and_assoc]
def idxF {α : Type} (f : α → Bool) (l : List α) : Int := match l.findIdx? f with | some i => i | none => -1
theorem idxF_some {α : Type} {f : α → Bool} {l : List α} {i : Nat} {x : α} (hx : l[i]? = some x) (h1 : f x = true) (h0 : ∀ (j : Nat) (y : α), j < i → l[j]? = some y → f y = false) : idxF f l = i := by
  obtain ⟨hi1, hi2⟩ := (List.getElem?_eq_some_iff.1 hx)
  have : l.findIdx? f = some i := by
    rw [List.findIdx?_eq_some_iff_getElem]
    refine ⟨hi1, by rw [hi2]; exact h1, fun j hj => ?_⟩
    have := h0 j (l[j]'(by omega)) hj (List.getElem?_eq_getElem (by omega))
    simp [this]
  unfold idxF; rw [this]
theorem idxF_none {α : Type} {f : α → Bool} {l : List α} (h0 : ∀ (j : Nat) (y : α), l[j]? = some y → f y = false) : idxF f l = -1 := by
  have : l.findIdx? f = none := by
    rw [List.findIdx?_eq_none_iff]
    intro x hx
    obtain ⟨j, hj⟩ := List.getElem?_of_mem hx
    exact h0 j x hj
  unfold idxF; rw [this]
theorem idxF_any {α : Type} {f : α → Bool} {l : List α} : decide (0 ≤ idxF f l) = l.any f := by
  rw [Bool.eq_iff_iff, decide_eq_true_eq]
  unfold idxF
  cases h : l.findIdx? f with
  | none => simpa using List.findIdx?_eq_none_iff.1 h
  | some i =>
    obtain ⟨h1, h2, _⟩ := List.findIdx?_eq_some_iff_getElem.1 h
    simp only [Int.natCast_nonneg, true_iff, List.any_eq_true]
    exact ⟨_, List.getElem_mem h1, h2⟩
theorem idxF_find {α : Type} (f : α → Bool) (l : List α) : (idxF f l = -1 ∧ l.find? f = none) ∨ ∃ (i : Nat) (x : α), idxF f l = i ∧ l[i]? = some x ∧ l.find? f = some x := by
  unfold idxF
  cases h : l.findIdx? f with
  | none =>
    refine .inl ⟨rfl, ?_⟩
    have := List.findIdx?_eq_none_iff.1 h
    simpa using this
  | some i =>
    obtain ⟨h1, h2, h3⟩ := List.findIdx?_eq_some_iff_getElem.1 h
    refine .inr ⟨i, l[i], rfl, List.getElem?_eq_getElem h1, ?_⟩
    rw [List.find?_eq_some_iff_getElem]
    exact ⟨h2, i, h1, rfl, fun j hj => by have := h3 j hj; simpa using this⟩
end Go.Ev
set_option linter.unusedSimpArgs false
set_option linter.unusedVariables false
namespace Go.Ev
theorem Ad.eqC (x y : Ad) : eqC (List.replicate 20 .i) x.cells y.cells = some (decide (x = y)) := by
  have h1 := eqC_bytes x.l y.l (by rw [x.hl, y.hl])
  rw [x.hl] at h1
  unfold Ad.cells
  rw [h1]
  congr 1
  by_cases h : x = y
  · subst h; simp
  · rw [decide_eq_false h, beq_eq_false_iff_ne]
    exact fun h2 => h (Ad.ext h2)
theorem Ad.eqV {P : Program} {t : TypeId} (x y : Ad) (h1 : tyI P t = some (20, true)) (h2 : P.eqGuardType P.depth t = false) (h3 : flatK P 12 t = some (List.replicate 20 .i)) : eqV P t x.v y.v = some (decide (x = y)) := by
  unfold Ev.eqV Ad.v
  simp only [h1, h2, h3, Bool.false_eq_true, if_false, Option.bind_some]
  exact Ad.eqC x y
theorem Ad.eql {P : Program} {t : TypeId} (x y : Ad) (h1 : tyI P t = some (20, true)) (h2 : P.eqGuardType P.depth t = false) (h3 : flatK P 12 t = some (List.replicate 20 .i)) : binQ P .eql t x.v y.v = some (.bool (decide (x = y))) := by
  show (Ev.eqV P t x.v y.v).map Value.bool = _
  rw [Ad.eqV x y h1 h2 h3]; rfl
theorem Ad.neq {P : Program} {t : TypeId} (x y : Ad) (h1 : tyI P t = some (20, true)) (h2 : P.eqGuardType P.depth t = false) (h3 : flatK P 12 t = some (List.replicate 20 .i)) : binQ P .neq t x.v y.v = some (.bool (!decide (x = y))) := by
  show (Ev.eqV P t x.v y.v).map (fun r => Value.bool !r) = _
  rw [Ad.eqV x y h1 h2 h3]; rfl
theorem Ad.take20 (x : Ad) : List.take 20 x.cells = x.cells := List.take_of_length_le (Nat.le_of_eq x.len)
theorem Ad.drop20 (x : Ad) : List.drop 20 x.cells = [] := List.drop_of_length_le (Nat.le_of_eq x.len)
attribute [push_cast] Ad.take20 Ad.drop20
theorem cell_open {H : Hp} {b n : Nat} {cs : List Value} (h : cellsAt H b 0 n = some cs) : ∃ kd c', findE H b = some ⟨b, 0, kd, c'⟩ ∧ n ≤ c'.length ∧ List.take n c' = cs := by
  obtain ⟨⟨b', f, kd, c'⟩, he⟩ := cellsAt_findS h
  obtain rfl : b' = b := (findE_mem he).2
  unfold cellsAt at h
  rw [he] at h
  dsimp only at h
  split at h
  case isFalse => cases h
  rename_i hle
  obtain rfl : f = 0 := Nat.le_zero.1 hle
  unfold subL at h
  split at h
  case isFalse => cases h
  rename_i hlen
  refine ⟨kd, c', he, by omega, ?_⟩
  simpa using h
theorem LiR.openA {L : List (Ac × Value)} {H : Hp} {v : Value} (h : LiR acC 27 H L v) : ∃ p k, v = .slice p L.length k ∧ (L = [] ∨ ∃ b f d kd cs, p = some ⟨b, f + d, none⟩ ∧ findE H b = some ⟨b, f, kd, cs⟩ ∧
    ∀ i x, L[i]? = some x → (∀ q n, q + n ≤ 27 → d + i * 27 + q + n ≤ cs.length ∧ List.take n (List.drop (d + i * 27 + q) cs) = List.take n (List.drop q (acC x))) ∧ d + i * 27 + 27 ≤ cs.length ∧ List.take 27 (List.drop (d + i * 27) cs) = acC x) := by
  obtain ⟨p, k, rfl, h0⟩ := h.open acC_len (by decide)
  refine ⟨p, k, rfl, ?_⟩
  rcases h0 with h0 | ⟨b, f, d, kd, cs, rfl, he, hat, -, -⟩
  · exact .inl h0
  · refine .inr ⟨b, f, d, kd, cs, rfl, he, fun i x hx => ⟨hat i x hx, ?_⟩⟩
    have := hat i x hx 0 27 (by decide)
    rw [List.drop_zero, acC_take, Nat.add_zero] at this
    exact this
def emptyAt (a : Ad) : Ac := ⟨a, W.zero, 0, .empty, []⟩
def findS (s : List Ac) (a : Ad) : Ac := (s.find? fun x => decide (x.at_ = a)).getD (emptyAt a)
theorem emptyAt_cells (a : Ad) : a.cells ++ [.int .u64 0, .int .u64 0, .int .u64 0, .int .u64 0, .int .i64 0, .string .empty, .slice none 0 0] = (emptyAt a).cells (.slice none 0 0) := rfl
theorem findA_map {α : Type} (g : α → Ac) (p : Ac → Bool) (l : List α) : (l.map g).find? p = (l.find? fun x => p (g x)).map g := by
  induction l with
  | nil => rfl
  | cons x r ih => rw [List.map_cons, List.find?_cons, List.find?_cons]; cases p (g x) <;> simp [ih]
end Go.Ev
namespace Go.Proofs.YtkhpncfgimlleaaGreat
open Go Go.Ev Go.Proofs
set_option maxRecDepth 100000
set_option maxHeartbeats 4000000
theorem ad_ty : tyI Tryz.prog 26 = some (20, true) := by kernel_rfl
theorem ad_eg : Program.eqGuardType Tryz.prog (Program.depth Tryz.prog) 26 = false := by kernel_rfl
theorem ad_fl : flatK Tryz.prog 12 26 = some (List.replicate 20 .i) := by kernel_rfl
theorem ad_eql (x y : Ad) : binQ Tryz.prog .eql 26 x.v y.v = some (.bool (decide (x = y))) := Ad.eql x y ad_ty ad_eg ad_fl
theorem ad_neq (x y : Ad) : binQ Tryz.prog .neq 26 x.v y.v = some (.bool (!decide (x = y))) := Ad.neq x y ad_ty ad_eg ad_fl
attribute [push_cast high] ad_eql ad_neq
theorem indexA_ok {H : Hp} {L : List (Ac × Value)} {v : Value} {g : FuncId} {caps : List Value} {f : Ac × Value → Bool} (hr : roM H) (hn : L.length ≤ 1000000000000) (hl : LiR acC 27 H L v)
    (hf : ∀ x ∈ L, CallsV Tryz.prog g (.agg (acC x).toArray :: caps) H (Ret0 (.bool (f x)))) :
    CallsV Tryz.prog 76 [v, .func (.func g) #[] caps.toArray] H (Ret0 (.int .i64 (idxF f L))) := by
  have hm := hr.marks
  obtain ⟨p, k, rfl, hla⟩ := hl.openA
  refine callsO (noG_ok _) Tryz.mix Tryz.pl76 Tryz.func76 rfl Tryz.ntmps76 Tryz.results76 rfl (by first | rfl | assumption) (Nat.le_of_ble_eq_true rfl) (by kernel_rfl) ?_
  simp only [push_cast, Nat.reduceAdd, Nat.reduceSub, Nat.reduceMul, Nat.reduceLT, Nat.reduceLeDiff, Nat.reduceEqDiff, Nat.reduceMod, Nat.reduceDiv, Int.reduceAdd, Int.reduceSub, Int.reduceMul, Int.reduceLT, Int.reduceLE, Int.reduceEq, Int.reduceNeg, Int.reduceToNat, reduceIte, reduceCtorEq, Int.reduceBEq, Int.reduceBNe]
  refine loopO (noG_ok _) (pl := Tryz.pl76) Tryz.mix (X := Nat)
    (fun i => ([(0, .slice p L.length k), (1, .func (.func g) #[] caps.toArray), (7, .int .i64 L.length), (8, .int .i64 i)], H))
    (fun i => i ≤ L.length ∧ ∀ j y, j < i → L[j]? = some y → f y = false) (fun i => L.length - i) 0 ?_ ?_ (by kernel_rfl) ?_
  · exact ⟨Nat.zero_le _, fun i x h => by omega⟩
  · simp only [push_cast, Nat.reduceAdd, Nat.reduceSub, Nat.reduceMul, Nat.reduceLT, Nat.reduceLeDiff, Nat.reduceEqDiff, Nat.reduceMod, Nat.reduceDiv, Int.reduceAdd, Int.reduceSub, Int.reduceMul, Int.reduceLT, Int.reduceLE, Int.reduceEq, Int.reduceNeg, Int.reduceToNat, reduceIte, reduceCtorEq, Int.reduceBEq, Int.reduceBNe, hm]
  · rintro i ⟨hi, ho⟩
    dsimp only at hi ho ⊢
    rcases Nat.lt_or_ge i L.length with hlt | hge
    · obtain ⟨x, hx⟩ : ∃ x, L[i]? = some x := ⟨L[i], List.getElem?_eq_getElem hlt⟩
      rcases hla with rfl | ⟨b, f', d, kd, cs, rfl, hfe, hat⟩
      · simp at hlt
      obtain ⟨-, a1, a2⟩ := hat i x hx
      have hfx := hf x (List.mem_of_getElem? hx)
      have i1 : (i : Int) < (L.length : Int) := by omega
      simp only [push_cast, Nat.reduceAdd, Nat.reduceSub, Nat.reduceMul, Nat.reduceLT, Nat.reduceLeDiff, Nat.reduceEqDiff, Nat.reduceMod, Nat.reduceDiv, Int.reduceAdd, Int.reduceSub, Int.reduceMul, Int.reduceLT, Int.reduceLE, Int.reduceEq, Int.reduceNeg, Int.reduceToNat, reduceIte, reduceCtorEq, Int.reduceBEq, Int.reduceBNe, i1, hlt, hfe, a1, a2]
      refine hfx.pure hr.der ?_
      simp only [push_cast, Nat.reduceAdd, Nat.reduceSub, Nat.reduceMul, Nat.reduceLT, Nat.reduceLeDiff, Nat.reduceEqDiff, Nat.reduceMod, Nat.reduceDiv, Int.reduceAdd, Int.reduceSub, Int.reduceMul, Int.reduceLT, Int.reduceLE, Int.reduceEq, Int.reduceNeg, Int.reduceToNat, reduceIte, reduceCtorEq, Int.reduceBEq, Int.reduceBNe, wrap_i64' (show -9223372036854775808 ≤ (i : Int) + 1 ∧ (i : Int) + 1 ≤ 9223372036854775807 by omega)]
      simp only [sel_ite, decide_eq_true_eq, bne_iff_ne, ne_eq, beq_iff_eq]
      split
      · rename_i h
        rw [idxF_some hx h ho]
      · rename_i h
        refine ⟨i + 1, ⟨hlt, fun j y hj hy => ?_⟩, by omega, rfl⟩
        rcases Nat.lt_or_ge j i with h5 | h5
        · exact ho j y h5 hy
        · obtain rfl : j = i := by omega
          rw [hx] at hy; cases hy
          simpa using h
    · obtain rfl : i = L.length := by omega
      simp only [push_cast, Nat.reduceAdd, Nat.reduceSub, Nat.reduceMul, Nat.reduceLT, Nat.reduceLeDiff, Nat.reduceEqDiff, Nat.reduceMod, Nat.reduceDiv, Int.reduceAdd, Int.reduceSub, Int.reduceMul, Int.reduceLT, Int.reduceLE, Int.reduceEq, Int.reduceNeg, Int.reduceToNat, reduceIte, reduceCtorEq, Int.reduceBEq, Int.reduceBNe, Nat.lt_irrefl, Int.lt_irrefl, idxF_none (fun j y hj => ho j y (List.getElem?_eq_some_iff.1 hj).1 hj)]
theorem find1_ok {H : Hp} {x : Ac × Value} {a : Ad} {b : Nat} (hr : roM H) (hb : cellsAt H b 0 20 = some a.cells) (hx : oneC x.2 = true) : CallsV Tryz.prog 77 [.agg (acC x).toArray, .pointer (some ⟨b, 0, none⟩)] H (Ret0 (.bool (decide (x.1.at_ = a)))) := by
  have hm := hr.marks
  obtain ⟨kd, c', he, h1, h2⟩ := cell_open hb
  have h3 : List.take 20 (acC x) = x.1.at_.cells := x.1.at0 x.2
  refine callsO gA1_ok Tryz.mix Tryz.pl77 Tryz.func77 rfl Tryz.ntmps77 Tryz.results77 rfl (by first | rfl | assumption) (Nat.le_of_ble_eq_true rfl) (by kernel_rfl) ?_
  simp only [push_cast, Nat.reduceAdd, Nat.reduceSub, Nat.reduceMul, Nat.reduceLT, Nat.reduceLeDiff, Nat.reduceEqDiff, Nat.reduceMod, Nat.reduceDiv, Int.reduceAdd, Int.reduceSub, Int.reduceMul, Int.reduceLT, Int.reduceLE, Int.reduceEq, Int.reduceNeg, Int.reduceToNat, reduceIte, reduceCtorEq, Int.reduceBEq, Int.reduceBNe]
  intro b1 hb1
  have hne := (fresh_findS hb1 he).2
  simp only [push_cast, Nat.reduceAdd, Nat.reduceSub, Nat.reduceMul, Nat.reduceLT, Nat.reduceLeDiff, Nat.reduceEqDiff, Nat.reduceMod, Nat.reduceDiv, Int.reduceAdd, Int.reduceSub, Int.reduceMul, Int.reduceLT, Int.reduceLE, Int.reduceEq, Int.reduceNeg, Int.reduceToNat, reduceIte, reduceCtorEq, Int.reduceBEq, Int.reduceBNe, hb1, he, hne, h1, h2, h3]
theorem sfind_ok {M : Hp} {s : List Ac} {v : Value} {a : Ad} (hv : StR s v M) (hn : s.length ≤ 1000000000) (hs : ∀ x ∈ s, x.slots.length ≤ 1000000000000) : CallsR Tryz.prog 62 [v, a.v] M (AcR (findS s a)) := by
  intro M0 hr he
  have hm := hr.marks
  replace hv := StR.rd _ _ _ _ he.symm hv
  obtain ⟨L, rfl, hl, hsl⟩ := hv
  have hlen : (L.map (·.1)).length = L.length := List.length_map _
  rw [hlen] at hn
  obtain ⟨p, k, rfl, hla⟩ := hl.openA
  refine callsO gA1_ok Tryz.mix (fun i => if i = 1 then [(0, 9)] else Tryz.pl62 i) Tryz.func62 rfl Tryz.ntmps62 Tryz.results62 rfl (by first | rfl | assumption) (Nat.le_of_ble_eq_true rfl) (by kernel_rfl) ?_
  simp only [push_cast, Nat.reduceAdd, Nat.reduceSub, Nat.reduceMul, Nat.reduceLT, Nat.reduceLeDiff, Nat.reduceEqDiff, Nat.reduceMod, Nat.reduceDiv, Int.reduceAdd, Int.reduceSub, Int.reduceMul, Int.reduceLT, Int.reduceLE, Int.reduceEq, Int.reduceNeg, Int.reduceToNat, reduceIte, reduceCtorEq, Int.reduceBEq, Int.reduceBNe]
  intro b3 hb3 b4 hb4
  have hL3 : freshN [⟨b3, 0, .cel 26, a.cells⟩] M0 := ⟨hb3, trivial⟩
  refine regO gA1_ok ?_
  simp only [push_cast, Nat.reduceAdd, Nat.reduceSub, Nat.reduceMul, Nat.reduceLT, Nat.reduceLeDiff, Nat.reduceEqDiff, Nat.reduceMod, Nat.reduceDiv, Int.reduceAdd, Int.reduceSub, Int.reduceMul, Int.reduceLT, Int.reduceLE, Int.reduceEq, Int.reduceNeg, Int.reduceToNat, reduceIte, reduceCtorEq, Int.reduceBEq, Int.reduceBNe, hb4]
  refine useP [_] (M := ⟨b3, 0, .cel 26, a.cells⟩ :: M0) (v := .int .i64 (idxF (fun x => decide (x.1.at_ = a)) L)) (fun M1 hr1 he1 => indexA_ok (caps := [_]) hr1 (by omega) ((hl.app hL3).congr he1.symm) fun x hx => find1_ok hr1 ?_ (hsl x hx).one) ⟨⟨hb4.1, hb4.2⟩, trivial⟩ ?_
  · rw [he1]
    simp only [push_cast, Nat.reduceAdd, Nat.reduceSub, Nat.reduceMul, Nat.reduceLT, Nat.reduceLeDiff, Nat.reduceEqDiff, Nat.reduceMod, Nat.reduceDiv, Int.reduceAdd, Int.reduceSub, Int.reduceMul, Int.reduceLT, Int.reduceLE, Int.reduceEq, Int.reduceNeg, Int.reduceToNat, reduceIte, reduceCtorEq, Int.reduceBEq, Int.reduceBNe]
  simp only [push_cast, Nat.reduceAdd, Nat.reduceSub, Nat.reduceMul, Nat.reduceLT, Nat.reduceLeDiff, Nat.reduceEqDiff, Nat.reduceMod, Nat.reduceDiv, Int.reduceAdd, Int.reduceSub, Int.reduceMul, Int.reduceLT, Int.reduceLE, Int.reduceEq, Int.reduceNeg, Int.reduceToNat, reduceIte, reduceCtorEq, Int.reduceBEq, Int.reduceBNe, hb4]
  rcases idxF_find (fun x : Ac × Value => decide (x.1.at_ = a)) L with ⟨h0, h1⟩ | ⟨i, x, h0, h1, h2⟩
  · have e : findS (L.map (·.1)) a = emptyAt a := by unfold findS; rw [findA_map, h1]; rfl
    rw [e]
    simp only [push_cast, Nat.reduceAdd, Nat.reduceSub, Nat.reduceMul, Nat.reduceLT, Nat.reduceLeDiff, Nat.reduceEqDiff, Nat.reduceMod, Nat.reduceDiv, Int.reduceAdd, Int.reduceSub, Int.reduceMul, Int.reduceLT, Int.reduceLE, Int.reduceEq, Int.reduceNeg, Int.reduceToNat, reduceIte, reduceCtorEq, Int.reduceBEq, Int.reduceBNe, h0, hb4, emptyAt_cells]
    exact doneK2 [_, _] (Gr.refl hm) (AcR.rd _) ⟨_, rfl, LiR.nil _ _⟩
  · have e : findS (L.map (·.1)) a = x.1 := by unfold findS; rw [findA_map, h2]; rfl
    rw [e]
    have hxm := List.mem_of_getElem? h1
    rcases hla with rfl | ⟨b, f', d, kd, cs, rfl, hfe, hat⟩
    · simp at h1
    obtain ⟨-, a1, a2⟩ := hat i x h1
    have i0 : ¬ (i : Int) < 0 := by omega
    have hi := (List.getElem?_eq_some_iff.1 h1).1
    have n3 := (fresh_findS hb3 hfe).2
    have n4 := (fresh_findS hb4.2.2 hfe).2
    simp only [push_cast, Nat.reduceAdd, Nat.reduceSub, Nat.reduceMul, Nat.reduceLT, Nat.reduceLeDiff, Nat.reduceEqDiff, Nat.reduceMod, Nat.reduceDiv, Int.reduceAdd, Int.reduceSub, Int.reduceMul, Int.reduceLT, Int.reduceLE, Int.reduceEq, Int.reduceNeg, Int.reduceToNat, reduceIte, reduceCtorEq, Int.reduceBEq, Int.reduceBNe, h0, i0, hi, hfe, a1, a2, n3, n4]
    refine useL [_, _] (sown_ok (hsl x hxm) (hs _ (List.mem_map_of_mem hxm))) (AcR.rd _) hm ⟨hb4.2.2, hb3, trivial⟩ fun w M2 hg2 hf2 hq => ?_
    obtain ⟨sv, rfl, hsv⟩ := hq
    obtain ⟨ps, ks, rfl⟩ := hsv.slice
    simp only [push_cast, Nat.reduceAdd, Nat.reduceSub, Nat.reduceMul, Nat.reduceLT, Nat.reduceLeDiff, Nat.reduceEqDiff, Nat.reduceMod, Nat.reduceDiv, Int.reduceAdd, Int.reduceSub, Int.reduceMul, Int.reduceLT, Int.reduceLE, Int.reduceEq, Int.reduceNeg, Int.reduceToNat, reduceIte, reduceCtorEq, Int.reduceBEq, Int.reduceBNe, hb4]
    exact doneK2 [_, _] hg2 (AcR.rd _) ⟨_, rfl, hsv⟩
theorem refFind_ok {M : Hp} {s : List Ac} {v : Value} {a : Ad} (hv : StR s v M) (hn : s.length ≤ 1000000000) (hs : ∀ x ∈ s, x.slots.length ≤ 1000000000000) : CallsR Tryz.prog 64 [v, a.v] M (AcR (findS s a)) := by
  intro M0 hr he
  have hm := hr.marks
  replace hv := StR.rd _ _ _ _ he.symm hv
  obtain ⟨L, rfl, hl, hsl⟩ := hv
  have hlen : (L.map (·.1)).length = L.length := List.length_map _
  rw [hlen] at hn
  obtain ⟨p, k, rfl, hla⟩ := hl.openA
  refine callsO gA1_ok Tryz.mix Tryz.pl64 Tryz.func64 rfl Tryz.ntmps64 Tryz.results64 rfl (by first | rfl | assumption) (Nat.le_of_ble_eq_true rfl) (by kernel_rfl) ?_
  simp only [push_cast, Nat.reduceAdd, Nat.reduceSub, Nat.reduceMul, Nat.reduceLT, Nat.reduceLeDiff, Nat.reduceEqDiff, Nat.reduceMod, Nat.reduceDiv, Int.reduceAdd, Int.reduceSub, Int.reduceMul, Int.reduceLT, Int.reduceLE, Int.reduceEq, Int.reduceNeg, Int.reduceToNat, reduceIte, reduceCtorEq, Int.reduceBEq, Int.reduceBNe]
  intro b3 hb3 b4 hb4
  refine loopO gA1_ok (pl := Tryz.pl64) Tryz.mix (X := Nat)
    (fun i => ([(0, .slice p L.length k), (3, .pointer (some ⟨b3, 0, none⟩)), (4, .pointer (some ⟨b4, 0, none⟩)), (5, .int .i64 i)], ⟨b4, 0, .cel 44, Ac.zeroC⟩ :: ⟨b3, 0, .cel 26, a.cells⟩ :: M0))
    (fun i => i ≤ L.length ∧ ∀ j y, j < i → L[j]? = some y → ¬ y.1.at_ = a) (fun i => L.length - i) 0 ?_ ?_ (by kernel_rfl) ?_
  · exact ⟨Nat.zero_le _, fun i x h => by omega⟩
  · simp only [push_cast, Nat.reduceAdd, Nat.reduceSub, Nat.reduceMul, Nat.reduceLT, Nat.reduceLeDiff, Nat.reduceEqDiff, Nat.reduceMod, Nat.reduceDiv, Int.reduceAdd, Int.reduceSub, Int.reduceMul, Int.reduceLT, Int.reduceLE, Int.reduceEq, Int.reduceNeg, Int.reduceToNat, reduceIte, reduceCtorEq, Int.reduceBEq, Int.reduceBNe, hb4, Ac.zeroC]
  · rintro i ⟨hi, ho⟩
    dsimp only at hi ho ⊢
    rcases Nat.lt_or_ge i L.length with hlt | hge
    · obtain ⟨x, hx⟩ : ∃ x, L[i]? = some x := ⟨L[i], List.getElem?_eq_getElem hlt⟩
      rcases hla with rfl | ⟨b, f', d, kd, cs, rfl, hfe, hat⟩
      · simp at hlt
      obtain ⟨a0, a1, a2⟩ := hat i x hx
      obtain ⟨a3, a4⟩ := a0 0 20 (by decide)
      rw [Nat.add_zero] at a3 a4
      rw [List.drop_zero, show List.take 20 (acC x) = x.1.at_.cells from x.1.at0 x.2] at a4
      have hxm := List.mem_of_getElem? hx
      have i1 : (i : Int) < (L.length : Int) := by omega
      have n3 := (fresh_findS hb3 hfe).2
      have n4 := (fresh_findS hb4.2.2 hfe).2
      by_cases hxa : x.1.at_ = a
      · have e : findS (L.map (·.1)) a = x.1 := by
          unfold findS
          have : (L.map (·.1)).find? (fun y => decide (y.at_ = a)) = some x.1 := by
            rw [List.find?_eq_some_iff_getElem]
            refine ⟨by simp [hxa], i, by rw [hlen]; exact hlt, by rw [List.getElem_map, (List.getElem?_eq_some_iff.1 hx).2], fun j hj => ?_⟩
            rw [List.getElem_map]
            have := ho j L[j] hj (List.getElem?_eq_getElem (by omega))
            simp [this]
          rw [this]; rfl
        rw [e]
        simp only [push_cast, Nat.reduceAdd, Nat.reduceSub, Nat.reduceMul, Nat.reduceLT, Nat.reduceLeDiff, Nat.reduceEqDiff, Nat.reduceMod, Nat.reduceDiv, Int.reduceAdd, Int.reduceSub, Int.reduceMul, Int.reduceLT, Int.reduceLE, Int.reduceEq, Int.reduceNeg, Int.reduceToNat, reduceIte, reduceCtorEq, Int.reduceBEq, Int.reduceBNe, i1, hlt, hfe, a3, a4, n3, n4, hb4, hxa, decide_true, a1, a2]
        refine useL [⟨b4, 0, .cel 44, Ac.zeroC⟩, ⟨b3, 0, .cel 26, a.cells⟩] (refown_ok (hsl x hxm) (hs _ (List.mem_map_of_mem hxm))) (AcR.rd _) hm ⟨hb4.2.2, hb3, trivial⟩ fun w M2 hg2 hf2 hq => ?_
        obtain ⟨sv, rfl, hsv⟩ := hq
        obtain ⟨ps, ks, rfl⟩ := hsv.slice
        simp only [push_cast, Nat.reduceAdd, Nat.reduceSub, Nat.reduceMul, Nat.reduceLT, Nat.reduceLeDiff, Nat.reduceEqDiff, Nat.reduceMod, Nat.reduceDiv, Int.reduceAdd, Int.reduceSub, Int.reduceMul, Int.reduceLT, Int.reduceLE, Int.reduceEq, Int.reduceNeg, Int.reduceToNat, reduceIte, reduceCtorEq, Int.reduceBEq, Int.reduceBNe, hb4, Ac.zeroC]
        exact doneK2 [_, _] hg2 (AcR.rd _) ⟨_, rfl, hsv⟩
      · simp only [push_cast, Nat.reduceAdd, Nat.reduceSub, Nat.reduceMul, Nat.reduceLT, Nat.reduceLeDiff, Nat.reduceEqDiff, Nat.reduceMod, Nat.reduceDiv, Int.reduceAdd, Int.reduceSub, Int.reduceMul, Int.reduceLT, Int.reduceLE, Int.reduceEq, Int.reduceNeg, Int.reduceToNat, reduceIte, reduceCtorEq, Int.reduceBEq, Int.reduceBNe, i1, hlt, hfe, a3, a4, n3, n4, hb4, hxa, decide_false, wrap_i64' (show -9223372036854775808 ≤ (i : Int) + 1 ∧ (i : Int) + 1 ≤ 9223372036854775807 by omega)]
        refine ⟨i + 1, ⟨hlt, fun j y hj hy => ?_⟩, by omega, rfl⟩
        rcases Nat.lt_or_ge j i with h5 | h5
        · exact ho j y h5 hy
        · obtain rfl : j = i := by omega
          rw [hx] at hy; cases hy
          exact hxa
    · obtain rfl : i = L.length := by omega
      have e : findS (L.map (·.1)) a = emptyAt a := by
        unfold findS
        have : (L.map (·.1)).find? (fun y => decide (y.at_ = a)) = none := by
          rw [List.find?_eq_none]
          intro y hy
          obtain ⟨z, hz, rfl⟩ := List.mem_map.1 hy
          obtain ⟨j, hj⟩ := List.getElem?_of_mem hz
          have := ho j z (List.getElem?_eq_some_iff.1 hj).1 hj
          simp [this]
        rw [this]; rfl
      rw [e]
      simp only [push_cast, Nat.reduceAdd, Nat.reduceSub, Nat.reduceMul, Nat.reduceLT, Nat.reduceLeDiff, Nat.reduceEqDiff, Nat.reduceMod, Nat.reduceDiv, Int.reduceAdd, Int.reduceSub, Int.reduceMul, Int.reduceLT, Int.reduceLE, Int.reduceEq, Int.reduceNeg, Int.reduceToNat, reduceIte, reduceCtorEq, Int.reduceBEq, Int.reduceBNe, Nat.lt_irrefl, Int.lt_irrefl, hb4, Ac.zeroC, emptyAt_cells]
      exact doneK2 [_, _] (Gr.refl hm) (AcR.rd _) ⟨_, rfl, LiR.nil _ _⟩
end Go.Proofs.YtkhpncfgimlleaaGreat
