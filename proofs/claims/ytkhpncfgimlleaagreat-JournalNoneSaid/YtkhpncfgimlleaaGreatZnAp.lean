/- Texts of this claim, merged by program: Jb Jc Jd Je Jf. -/
import Derived.Test.YtkhpncfgimlleaaGreatZnAo
set_option linter.unusedSimpArgs false
set_option linter.unusedVariables false
namespace Go.Ev
theorem same_step2 {α : Type} {a b : List α} {k : Nat} {x y : α} (h : a.take k = b.take k) (hx : a[k]? = some x) (hy : b[k]? = some y) (hxy : x = y) : a.take (k + 1) = b.take (k + 1) := by
  rw [List.take_add_one, List.take_add_one, hx, hy, h, hxy]
end Go.Ev
namespace Go.Proofs.YtkhpncfgimlleaaGreat
open Go Go.Ev Go.Proofs
set_option maxRecDepth 100000
set_option maxHeartbeats 4000000
def plSJ : Plans := fun i => if i = 1 then [(0, 9)] else if i = 6 then [] else if i = 11 then [] else Tryz.pl15 i
attribute [push_cast] plSJ
theorem sameJ_ok {M : Hp} {x y : Jo} {v u : Value} (hv : JoR x v M) (hu : JoR y u M) (hm : marksOf M = []) (hn : x.state.length ≤ 1000000000000) (hn2 : y.state.length ≤ 1000000000000) (h1 : ∀ z ∈ x.state, z.slots.length ≤ 4000) (h2 : ∀ z ∈ y.state, z.slots.length ≤ 4000)
    (h3 : x.undo.length ≤ 1000000000000) (h4 : x.marks.length ≤ 1000000000000) : CallsV Tryz.prog 15 [v, u] M (Ret0 (.bool (decide (x = y)))) := by
  obtain ⟨vs, vu, vm, rfl, hs1, hu1, hm1⟩ := hv
  obtain ⟨ws, wu, wm, rfl, hs2, hu2, hm2⟩ := hu
  obtain ⟨ps, ks, rfl⟩ : ∃ p k, vs = .slice p x.state.length k := hs1.slice
  obtain ⟨qs, ns, rfl⟩ : ∃ p k, ws = .slice p y.state.length k := hs2.slice
  obtain ⟨pu, ku, rfl, hua⟩ := hu1.openC Ch.len (by decide)
  obtain ⟨qu, nu, rfl, hub⟩ := hu2.openC Ch.len (by decide)
  obtain ⟨pm, km, rfl, hma⟩ := hm1.openC (s := 1) (fun _ => rfl) (by decide)
  obtain ⟨qm, nm, rfl, hmb⟩ := hm2.openC (s := 1) (fun _ => rfl) (by decide)
  refine callsO gA1_ok Tryz.mix plSJ Tryz.func15 rfl Tryz.ntmps15 Tryz.results15 rfl (by first | rfl | assumption) (Nat.le_of_ble_eq_true rfl) (by kernel_rfl) ?_
  simp only [push_cast, Nat.reduceAdd, Nat.reduceSub, Nat.reduceMul, Nat.reduceLT, Nat.reduceLeDiff, Nat.reduceEqDiff, Nat.reduceMod, Nat.reduceDiv, Int.reduceAdd, Int.reduceSub, Int.reduceMul, Int.reduceLT, Int.reduceLE, Int.reduceEq, Int.reduceNeg, Int.reduceToNat, reduceIte, reduceCtorEq, Int.reduceBEq, Int.reduceBNe]
  intro b2 hb2 b3 hb3
  refine regO gA1_ok ?_
  simp only [push_cast, Nat.reduceAdd, Nat.reduceSub, Nat.reduceMul, Nat.reduceLT, Nat.reduceLeDiff, Nat.reduceEqDiff, Nat.reduceMod, Nat.reduceDiv, Int.reduceAdd, Int.reduceSub, Int.reduceMul, Int.reduceLT, Int.reduceLE, Int.reduceEq, Int.reduceNeg, Int.reduceToNat, reduceIte, reduceCtorEq, Int.reduceBEq, Int.reduceBNe, hb3]
  refine useP [_, _] (fun M1 hr1 he1 => sameS_ok (StR.rd _ _ _ _ he1.symm hs1) (StR.rd _ _ _ _ he1.symm hs2) hr1.marks hn hn2 h1 h2) ⟨hb3.2.2, hb2, trivial⟩ ?_
  by_cases c1 : x.state = y.state
  case neg =>
    have e : decide (x = y) = false := decide_eq_false fun h => c1 (by rw [h])
    simp only [push_cast, Nat.reduceAdd, Nat.reduceSub, Nat.reduceMul, Nat.reduceLT, Nat.reduceLeDiff, Nat.reduceEqDiff, Nat.reduceMod, Nat.reduceDiv, Int.reduceAdd, Int.reduceSub, Int.reduceMul, Int.reduceLT, Int.reduceLE, Int.reduceEq, Int.reduceNeg, Int.reduceToNat, reduceIte, reduceCtorEq, Int.reduceBEq, Int.reduceBNe, hb3, decide_eq_false c1, e]
  by_cases c2 : x.undo.length = y.undo.length
  case neg =>
    have e : decide (x = y) = false := decide_eq_false fun h => c2 (by rw [h])
    have e1 : (((x.undo.length : Nat) : Int) != ((y.undo.length : Nat) : Int)) = true := by rw [bne_iff_ne]; omega
    simp only [push_cast, Nat.reduceAdd, Nat.reduceSub, Nat.reduceMul, Nat.reduceLT, Nat.reduceLeDiff, Nat.reduceEqDiff, Nat.reduceMod, Nat.reduceDiv, Int.reduceAdd, Int.reduceSub, Int.reduceMul, Int.reduceLT, Int.reduceLE, Int.reduceEq, Int.reduceNeg, Int.reduceToNat, reduceIte, reduceCtorEq, Int.reduceBEq, Int.reduceBNe, hb3, decide_eq_true c1, e1, e]
  have e2 : (((x.undo.length : Nat) : Int) != ((y.undo.length : Nat) : Int)) = false := by rw [c2]; exact bne_self_eq_false _
  by_cases c3 : x.marks.length = y.marks.length
  case neg =>
    have e : decide (x = y) = false := decide_eq_false fun h => c3 (by rw [h])
    have e1 : (((x.marks.length : Nat) : Int) != ((y.marks.length : Nat) : Int)) = true := by rw [bne_iff_ne]; omega
    simp only [push_cast, Nat.reduceAdd, Nat.reduceSub, Nat.reduceMul, Nat.reduceLT, Nat.reduceLeDiff, Nat.reduceEqDiff, Nat.reduceMod, Nat.reduceDiv, Int.reduceAdd, Int.reduceSub, Int.reduceMul, Int.reduceLT, Int.reduceLE, Int.reduceEq, Int.reduceNeg, Int.reduceToNat, reduceIte, reduceCtorEq, Int.reduceBEq, Int.reduceBNe, hb3, decide_eq_true c1, e2, e1, e]
  have e3 : (((x.marks.length : Nat) : Int) != ((y.marks.length : Nat) : Int)) = false := by rw [c3]; exact bne_self_eq_false _
  simp only [push_cast, Nat.reduceAdd, Nat.reduceSub, Nat.reduceMul, Nat.reduceLT, Nat.reduceLeDiff, Nat.reduceEqDiff, Nat.reduceMod, Nat.reduceDiv, Int.reduceAdd, Int.reduceSub, Int.reduceMul, Int.reduceLT, Int.reduceLE, Int.reduceEq, Int.reduceNeg, Int.reduceToNat, reduceIte, reduceCtorEq, Int.reduceBEq, Int.reduceBNe, hb3, decide_eq_true c1, e2, e3]
  refine loopO gA1_ok (pl := plSJ) Tryz.mix (X := Nat)
    (fun i => ([(2, .pointer (some ⟨b2, 0, none⟩)), (3, .pointer (some ⟨b3, 0, none⟩)), (5, .int .i64 i)], ⟨b3, 0, .cel 37, [.slice qs y.state.length ns, .slice qu y.undo.length nu, .slice qm y.marks.length nm]⟩ :: ⟨b2, 0, .cel 37, [.slice ps x.state.length ks, .slice pu x.undo.length ku, .slice pm x.marks.length km]⟩ :: M))
    (fun i => i ≤ x.undo.length ∧ x.undo.take i = y.undo.take i) (fun i => x.undo.length - i) 0 ?_ ?_ (by kernel_rfl) ?_
  · exact ⟨Nat.zero_le _, rfl⟩
  · simp only [push_cast, Nat.reduceAdd, Nat.reduceSub, Nat.reduceMul, Nat.reduceLT, Nat.reduceLeDiff, Nat.reduceEqDiff, Nat.reduceMod, Nat.reduceDiv, Int.reduceAdd, Int.reduceSub, Int.reduceMul, Int.reduceLT, Int.reduceLE, Int.reduceEq, Int.reduceNeg, Int.reduceToNat, reduceIte, reduceCtorEq, Int.reduceBEq, Int.reduceBNe]
  · rintro i ⟨hi, ht⟩
    dsimp only at hi ht ⊢
    rcases Nat.lt_or_ge i x.undo.length with hlt | hge
    · obtain ⟨a, ha⟩ : ∃ a, x.undo[i]? = some a := ⟨x.undo[i], List.getElem?_eq_getElem hlt⟩
      obtain ⟨b, hb⟩ : ∃ b, y.undo[i]? = some b := ⟨y.undo[i]'(by omega), List.getElem?_eq_getElem (by omega)⟩
      rcases hua with h0 | ⟨ba, f, d, kd, cs, rfl, he, hat⟩
      · rw [h0] at ha; simp at ha
      rcases hub with h0 | ⟨bb, f', d', kd', cs', rfl, he', hat'⟩
      · rw [h0] at hb; simp at hb
      obtain ⟨a1, a2⟩ := hat i a ha
      obtain ⟨b1, b2'⟩ := hat' i b hb
      have i1 : (i : Int) < (x.undo.length : Int) := by omega
      have i2 : (i : Int) < (y.undo.length : Int) := by omega
      have i3 : i < y.undo.length := by omega
      have n1 := (fresh_findS hb2 he).2
      have n2 := (fresh_findS hb3.2.2 he).2
      have n3 := (fresh_findS hb2 he').2
      have n4 := (fresh_findS hb3.2.2 he').2
      simp only [push_cast, Nat.reduceAdd, Nat.reduceSub, Nat.reduceMul, Nat.reduceLT, Nat.reduceLeDiff, Nat.reduceEqDiff, Nat.reduceMod, Nat.reduceDiv, Int.reduceAdd, Int.reduceSub, Int.reduceMul, Int.reduceLT, Int.reduceLE, Int.reduceEq, Int.reduceNeg, Int.reduceToNat, reduceIte, reduceCtorEq, Int.reduceBEq, Int.reduceBNe, i1, hlt, hb3]
      refine drawO gA1_ok Tryz.mix (Tryz.pl15 6) (by kernel_rfl) ?_
      by_cases hxy : a = b
      · simp only [push_cast, Nat.reduceAdd, Nat.reduceSub, Nat.reduceMul, Nat.reduceLT, Nat.reduceLeDiff, Nat.reduceEqDiff, Nat.reduceMod, Nat.reduceDiv, Int.reduceAdd, Int.reduceSub, Int.reduceMul, Int.reduceLT, Int.reduceLE, Int.reduceEq, Int.reduceNeg, Int.reduceToNat, reduceIte, reduceCtorEq, Int.reduceBEq, Int.reduceBNe, i1, i2, i3, hlt, he, he', a1, a2, b1, b2', hb3, n1, n2, n3, n4, decide_eq_true hxy, wrap_i64' (show -9223372036854775808 ≤ (i : Int) + 1 ∧ (i : Int) + 1 ≤ 9223372036854775807 by omega)]
        exact ⟨i + 1, ⟨hlt, same_step2 ht ha hb hxy⟩, by omega, rfl⟩
      · have e : decide (x = y) = false := decide_eq_false fun h => hxy (by rw [← h, ha] at hb; exact Option.some.inj hb)
        simp only [push_cast, Nat.reduceAdd, Nat.reduceSub, Nat.reduceMul, Nat.reduceLT, Nat.reduceLeDiff, Nat.reduceEqDiff, Nat.reduceMod, Nat.reduceDiv, Int.reduceAdd, Int.reduceSub, Int.reduceMul, Int.reduceLT, Int.reduceLE, Int.reduceEq, Int.reduceNeg, Int.reduceToNat, reduceIte, reduceCtorEq, Int.reduceBEq, Int.reduceBNe, i1, i2, i3, hlt, he, he', a1, a2, b1, b2', hb3, n1, n2, n3, n4, decide_eq_false hxy, e]
    · obtain rfl : i = x.undo.length := by omega
      have hund : x.undo = y.undo := by rw [List.take_length, c2, List.take_length] at ht; exact ht
      simp only [push_cast, Nat.reduceAdd, Nat.reduceSub, Nat.reduceMul, Nat.reduceLT, Nat.reduceLeDiff, Nat.reduceEqDiff, Nat.reduceMod, Nat.reduceDiv, Int.reduceAdd, Int.reduceSub, Int.reduceMul, Int.reduceLT, Int.reduceLE, Int.reduceEq, Int.reduceNeg, Int.reduceToNat, reduceIte, reduceCtorEq, Int.reduceBEq, Int.reduceBNe, Nat.lt_irrefl, Int.lt_irrefl, hb3]
      refine loopO gA1_ok (pl := plSJ) Tryz.mix (X := Nat)
        (fun i => ([(2, .pointer (some ⟨b2, 0, none⟩)), (3, .pointer (some ⟨b3, 0, none⟩)), (6, .int .i64 i)], ⟨b3, 0, .cel 37, [.slice qs y.state.length ns, .slice qu y.undo.length nu, .slice qm y.marks.length nm]⟩ :: ⟨b2, 0, .cel 37, [.slice ps x.state.length ks, .slice pu x.undo.length ku, .slice pm x.marks.length km]⟩ :: M))
        (fun i => i ≤ x.marks.length ∧ x.marks.take i = y.marks.take i) (fun i => x.marks.length - i) 0 ?_ ?_ (by kernel_rfl) ?_
      · exact ⟨Nat.zero_le _, rfl⟩
      · simp only [push_cast, Nat.reduceAdd, Nat.reduceSub, Nat.reduceMul, Nat.reduceLT, Nat.reduceLeDiff, Nat.reduceEqDiff, Nat.reduceMod, Nat.reduceDiv, Int.reduceAdd, Int.reduceSub, Int.reduceMul, Int.reduceLT, Int.reduceLE, Int.reduceEq, Int.reduceNeg, Int.reduceToNat, reduceIte, reduceCtorEq, Int.reduceBEq, Int.reduceBNe]
      · rintro i ⟨hi, ht⟩
        dsimp only at hi ht ⊢
        rcases Nat.lt_or_ge i x.marks.length with hlt | hge
        · obtain ⟨a, ha⟩ : ∃ a, x.marks[i]? = some a := ⟨x.marks[i], List.getElem?_eq_getElem hlt⟩
          obtain ⟨b, hb⟩ : ∃ b, y.marks[i]? = some b := ⟨y.marks[i]'(by omega), List.getElem?_eq_getElem (by omega)⟩
          rcases hma with h0 | ⟨ba, f, d, kd, cs, rfl, he, hat⟩
          · rw [h0] at ha; simp at ha
          rcases hmb with h0 | ⟨bb, f', d', kd', cs', rfl, he', hat'⟩
          · rw [h0] at hb; simp at hb
          obtain ⟨a1, a2⟩ := hat i a ha
          obtain ⟨b1, b2'⟩ := hat' i b hb
          rw [Nat.mul_one] at a1 a2 b1 b2'
          rw [show intC a = [.int .i64 a] from rfl] at a2
          rw [show intC b = [.int .i64 b] from rfl] at b2'
          have i1 : (i : Int) < (x.marks.length : Int) := by omega
          have i2 : (i : Int) < (y.marks.length : Int) := by omega
          have i3 : i < y.marks.length := by omega
          have n1 := (fresh_findS hb2 he).2
          have n2 := (fresh_findS hb3.2.2 he).2
          have n3 := (fresh_findS hb2 he').2
          have n4 := (fresh_findS hb3.2.2 he').2
          simp only [push_cast, Nat.reduceAdd, Nat.reduceSub, Nat.reduceMul, Nat.reduceLT, Nat.reduceLeDiff, Nat.reduceEqDiff, Nat.reduceMod, Nat.reduceDiv, Int.reduceAdd, Int.reduceSub, Int.reduceMul, Int.reduceLT, Int.reduceLE, Int.reduceEq, Int.reduceNeg, Int.reduceToNat, reduceIte, reduceCtorEq, Int.reduceBEq, Int.reduceBNe, i1, hlt, hb3]
          refine drawO gA1_ok Tryz.mix (Tryz.pl15 11) (by kernel_rfl) ?_
          by_cases hxy : a = b
          · have e4 : (a != b) = false := by rw [hxy]; exact bne_self_eq_false _
            simp only [push_cast, Nat.reduceAdd, Nat.reduceSub, Nat.reduceMul, Nat.reduceLT, Nat.reduceLeDiff, Nat.reduceEqDiff, Nat.reduceMod, Nat.reduceDiv, Int.reduceAdd, Int.reduceSub, Int.reduceMul, Int.reduceLT, Int.reduceLE, Int.reduceEq, Int.reduceNeg, Int.reduceToNat, reduceIte, reduceCtorEq, Int.reduceBEq, Int.reduceBNe, i1, i2, i3, hlt, he, he', a1, a2, b1, b2', hb3, n1, n2, n3, n4, e4, wrap_i64' (show -9223372036854775808 ≤ (i : Int) + 1 ∧ (i : Int) + 1 ≤ 9223372036854775807 by omega)]
            exact ⟨i + 1, ⟨hlt, same_step2 ht ha hb hxy⟩, by omega, rfl⟩
          · have e : decide (x = y) = false := decide_eq_false fun h => hxy (by rw [← h, ha] at hb; exact Option.some.inj hb)
            have e4 : (a != b) = true := by rw [bne_iff_ne]; exact hxy
            simp only [push_cast, Nat.reduceAdd, Nat.reduceSub, Nat.reduceMul, Nat.reduceLT, Nat.reduceLeDiff, Nat.reduceEqDiff, Nat.reduceMod, Nat.reduceDiv, Int.reduceAdd, Int.reduceSub, Int.reduceMul, Int.reduceLT, Int.reduceLE, Int.reduceEq, Int.reduceNeg, Int.reduceToNat, reduceIte, reduceCtorEq, Int.reduceBEq, Int.reduceBNe, i1, i2, i3, hlt, he, he', a1, a2, b1, b2', hb3, n1, n2, n3, n4, e4, e]
        · obtain rfl : i = x.marks.length := by omega
          have hmar : x.marks = y.marks := by rw [List.take_length, c3, List.take_length] at ht; exact ht
          have e : decide (x = y) = true := decide_eq_true (Jo.ext c1 hund hmar)
          simp only [push_cast, Nat.reduceAdd, Nat.reduceSub, Nat.reduceMul, Nat.reduceLT, Nat.reduceLeDiff, Nat.reduceEqDiff, Nat.reduceMod, Nat.reduceDiv, Int.reduceAdd, Int.reduceSub, Int.reduceMul, Int.reduceLT, Int.reduceLE, Int.reduceEq, Int.reduceNeg, Int.reduceToNat, reduceIte, reduceCtorEq, Int.reduceBEq, Int.reduceBNe, Nat.lt_irrefl, Int.lt_irrefl, hb3, e]
end Go.Proofs.YtkhpncfgimlleaaGreat
set_option linter.unusedSimpArgs false
set_option linter.unusedVariables false
namespace Go.Ev
theorem subH_turn {N : Hp} : ∀ {M : Hp}, (∀ e ∈ M, ∀ x ∈ N, ¬ e.blk = x.blk) → subH (N ++ M) (M ++ N)
  | [], _ => by rw [List.append_nil]; exact subH_self N
  | e :: r, h => by
    have h1 := h e (by simp)
    refine ⟨by rw [findE_A h1]; simp [findE], ?_⟩
    rw [remE_A h1]
    simp only [remE, if_true]
    exact subH_turn fun x hx => h x (by simp [hx])
theorem WpV.dup {P : Program} {r : Option Nat} {n : Nat} {c : Code} {K : Exit → Tm → Hp → Prop} {T : Tm} {L M : Hp} (hr : roM M) (hL : freshN L M) (h : WpV P r n c K T (M ++ (L ++ M))) : WpV P r n c K T (L ++ M) := by
  intro w0 mu a w hro ht hs hd
  have hder := derE_mem hr.der
  have hk : ∀ e ∈ M, ¬ e.wr := fun e he hw => by unfold Ent.wr at hw; rw [(hder e he).1] at hw; exact hw
  obtain ⟨p1, p2, p3⟩ := List.pairwise_append.1 hs.apart
  refine h w0 mu a w hro ht ⟨hs.os, hs.tape, hs.output, hs.size, hs.old, fun e he => ?_, fun e he hw => ?_, List.pairwise_append.2 ⟨p2, hs.apart, fun x hx y hy hw => ?_⟩⟩ (by rw [hd]; unfold defersOf; rw [marks_append M, hr.marks]; rfl)
  · rcases List.mem_append.1 he with he | he
    · exact hs.ents e (List.mem_append_right L he)
    · exact hs.ents e he
  · rcases List.mem_append.1 he with he | he
    · exact absurd hw (hk e he)
    · exact hs.own e he hw
  · rcases List.mem_append.1 hy with hy | hy
    · exact (p3 y hy x hx (hw.symm)).symm
    · exact absurd hw (fun hw => hw.elim (hk x hx) (hk y hy))
end Go.Ev
namespace Go.Proofs.YtkhpncfgimlleaaGreat
open Go Go.Ev Go.Proofs
set_option maxRecDepth 100000
set_option maxHeartbeats 4000000
theorem down1_ok {Hc : Hp} {l : List Ch} {v : Value} {stay : Nat} {b1 b2 : Nat} {k1 k2 : Kind} (hl : LiR Ch.cells 31 Hc l v) (hn : l.length ≤ 1000000000000) (hst : stay ≤ l.length) (hmc : marksOf Hc = [])
    (h1 : findE Hc b1 = some ⟨b1, 0, k1, [v]⟩) (h2 : findE Hc b2 = some ⟨b2, 0, k2, [.int .i64 stay]⟩) :
    IterV Tryz.prog 73 [.pointer (some ⟨b1, 0, none⟩), .pointer (some ⟨b2, 0, none⟩)] Hc ((l.drop stay).reverse.map fun x => [x.v]) := by
  obtain ⟨p, c, rfl, hla⟩ := hl.openC Ch.len (by decide)
  refine ⟨enterO Tryz.func73 rfl rfl, fun X Ho I St lo x0 hro hmk h0 hy => ?_⟩
  have hmarks : ∀ x, marksOf (Hc ++ Ho x) = [] := fun x => by rw [marks_append, hmc, hmk]; rfl
  have hm0 := hmarks x0
  have hdl : ((l.drop stay).reverse.map fun x => [x.v]).length = l.length - stay := by rw [List.length_map, List.length_reverse, List.length_drop]
  have h1' := fun x => findE_appT (B := Ho x) h1
  have h2' := fun x => findE_appT (B := Ho x) h2
  have yl : ∀ (k : Nat) (y : Ch) (x : X) (K' : Value → Hp → Prop), (l.drop stay).reverse[k]? = some y → I k x → (∀ x', I (k + 1) x' → K' (.bool true) (Hc ++ Ho x')) → (∀ x', St x' → K' (.bool false) (Hc ++ Ho x')) → YieldV Tryz.prog lo [y.v] (Hc ++ Ho x) K' := fun k y x K' hk hi ht hf => by
    refine (hy k x [y.v] (by rw [List.getElem?_map, hk]; rfl) hi).frame ?_ ?_
    · rintro v H' (⟨rfl, x', _, rfl⟩ | ⟨rfl, x', _, rfl⟩) <;> exact hro x x'
    · rintro v H' (⟨rfl, x', h, rfl⟩ | ⟨rfl, x', h, rfl⟩)
      · exact ht x' h
      · exact hf x' h
  have yf : ∀ (x' : X), (I ((l.drop stay).reverse.map fun x => [x.v]).length x' ∨ St x') → ∃ H'_1, List.Sublist H'_1 (dropM (Hc ++ Ho x')) ∧ ∃ x, (I ((l.drop stay).reverse.map fun x => [x.v]).length x ∨ St x) ∧ H'_1 = Ho x := fun x' hst => by
    refine ⟨Ho x', ?_, x', hst, rfl⟩
    rw [dropM_eq (hmarks x')]
    exact List.sublist_append_right _ _
  refine callsO (noG_ok _) Tryz.mix Tryz.pl73 Tryz.func73 rfl Tryz.ntmps73 Tryz.results73 rfl (by first | rfl | assumption) (Nat.le_of_ble_eq_true rfl) (by kernel_rfl) ?_
  have e0 : -9223372036854775808 ≤ (l.length : Int) - 1 ∧ (l.length : Int) - 1 ≤ 9223372036854775807 := by omega
  simp only [push_cast, Nat.reduceAdd, Nat.reduceSub, Nat.reduceMul, Nat.reduceLT, Nat.reduceLeDiff, Nat.reduceEqDiff, Nat.reduceMod, Nat.reduceDiv, Int.reduceAdd, Int.reduceSub, Int.reduceMul, Int.reduceLT, Int.reduceLE, Int.reduceEq, Int.reduceNeg, Int.reduceToNat, reduceIte, reduceCtorEq, Int.reduceBEq, Int.reduceBNe, h1', h2', wrap_i64' e0]
  refine loopO (noG_ok _) (pl := Tryz.pl73) Tryz.mix (X := Nat × X)
    (fun s => ([(0, .func (.yield lo) #[] #[]), (1, .pointer (some ⟨b1, 0, none⟩)), (2, .pointer (some ⟨b2, 0, none⟩)), (4, .int .i64 ((l.length : Int) - 1 - (s.1 : Int)))], Hc ++ Ho s.2))
    (fun s => s.1 ≤ l.length - stay ∧ I s.1 s.2) (fun s => l.length - stay - s.1) (0, x0) ?_ ?_ (by kernel_rfl) ?_
  · exact ⟨Nat.zero_le _, h0⟩
  · simp only [push_cast, Nat.reduceAdd, Nat.reduceSub, Nat.reduceMul, Nat.reduceLT, Nat.reduceLeDiff, Nat.reduceEqDiff, Nat.reduceMod, Nat.reduceDiv, Int.reduceAdd, Int.reduceSub, Int.reduceMul, Int.reduceLT, Int.reduceLE, Int.reduceEq, Int.reduceNeg, Int.reduceToNat, reduceIte, reduceCtorEq, Int.reduceBEq, Int.reduceBNe, hm0, subH_self, Int.sub_zero]
  · rintro ⟨i, z⟩ ⟨hi, hI⟩
    dsimp only at hi hI ⊢
    rcases Nat.lt_or_ge i (l.length - stay) with hlt | hge
    · obtain ⟨j, hj⟩ : ∃ j : Nat, (l.length : Int) - 1 - (i : Int) = (j : Int) := ⟨l.length - 1 - i, by omega⟩
      obtain ⟨y, hy'⟩ : ∃ y, l[j]? = some y := ⟨l[j]'(by omega), List.getElem?_eq_getElem (by omega)⟩
      rcases hla with rfl | ⟨b, f, d, kd, cs, rfl, he, hat⟩
      · simp at hy'
      obtain ⟨a1, a2⟩ := hat j y hy'
      have hee := fun x => findE_appT (B := Ho x) he
      have i1 : (stay : Int) ≤ (j : Int) := by omega
      have i2 : j < l.length := by omega
      have i3 : stay ≤ j := by omega
      have i4 : (j : Int) < (l.length : Int) := by omega
      have hk : (l.drop stay).reverse[i]? = some y := by
        rw [List.getElem?_reverse (by rw [List.length_drop]; exact hlt), List.getElem?_drop, List.length_drop, show stay + (l.length - stay - 1 - i) = j by omega]
        exact hy'
      simp only [push_cast, Nat.reduceAdd, Nat.reduceSub, Nat.reduceMul, Nat.reduceLT, Nat.reduceLeDiff, Nat.reduceEqDiff, Nat.reduceMod, Nat.reduceDiv, Int.reduceAdd, Int.reduceSub, Int.reduceMul, Int.reduceLT, Int.reduceLE, Int.reduceEq, Int.reduceNeg, Int.reduceToNat, reduceIte, reduceCtorEq, Int.reduceBEq, Int.reduceBNe, h1', h2', hj, i1, i2, i3, i4, hee, a1, a2]
      refine yl i y z _ hk hI (fun x' hx' => ?_) (fun x' hx' => ?_)
      · have e2 : (j : Int) - 1 = (l.length : Int) - 1 - ((i : Int) + 1) := by omega
        have e3 : -9223372036854775808 ≤ (j : Int) - 1 ∧ (j : Int) - 1 ≤ 9223372036854775807 := by omega
        simp only [push_cast, Nat.reduceAdd, Nat.reduceSub, Nat.reduceMul, Nat.reduceLT, Nat.reduceLeDiff, Nat.reduceEqDiff, Nat.reduceMod, Nat.reduceDiv, Int.reduceAdd, Int.reduceSub, Int.reduceMul, Int.reduceLT, Int.reduceLE, Int.reduceEq, Int.reduceNeg, Int.reduceToNat, reduceIte, reduceCtorEq, Int.reduceBEq, Int.reduceBNe, wrap_i64' e3]
        refine ⟨(i + 1, x'), ⟨by omega, hx'⟩, by dsimp only; omega, ?_⟩
        simp only [push_cast, Nat.reduceAdd, Nat.reduceSub, Nat.reduceMul, Nat.reduceLT, Nat.reduceLeDiff, Nat.reduceEqDiff, Nat.reduceMod, Nat.reduceDiv, Int.reduceAdd, Int.reduceSub, Int.reduceMul, Int.reduceLT, Int.reduceLE, Int.reduceEq, Int.reduceNeg, Int.reduceToNat, reduceIte, reduceCtorEq, Int.reduceBEq, Int.reduceBNe, e2, hmarks, subH_self]
      · simp only [push_cast, Nat.reduceAdd, Nat.reduceSub, Nat.reduceMul, Nat.reduceLT, Nat.reduceLeDiff, Nat.reduceEqDiff, Nat.reduceMod, Nat.reduceDiv, Int.reduceAdd, Int.reduceSub, Int.reduceMul, Int.reduceLT, Int.reduceLE, Int.reduceEq, Int.reduceNeg, Int.reduceToNat, reduceIte, reduceCtorEq, Int.reduceBEq, Int.reduceBNe]
        exact yf x' (.inr hx')
    · obtain rfl : i = l.length - stay := by omega
      have i1 : ¬ (stay : Int) ≤ (l.length : Int) - 1 - ((l.length - stay : Nat) : Int) := by omega
      simp only [push_cast, Nat.reduceAdd, Nat.reduceSub, Nat.reduceMul, Nat.reduceLT, Nat.reduceLeDiff, Nat.reduceEqDiff, Nat.reduceMod, Nat.reduceDiv, Int.reduceAdd, Int.reduceSub, Int.reduceMul, Int.reduceLT, Int.reduceLE, Int.reduceEq, Int.reduceNeg, Int.reduceToNat, reduceIte, reduceCtorEq, Int.reduceBEq, Int.reduceBNe, h1', h2', i1]
      exact yf z (.inl (by rw [hdl]; exact hI))
end Go.Proofs.YtkhpncfgimlleaaGreat
set_option linter.unusedSimpArgs false
set_option linter.unusedVariables false
namespace Go.Ev
theorem subH_front (M : Hp) : ∀ (L : Hp), subH (L ++ M) L
  | [] => trivial
  | e :: r => by
    refine ⟨by simp [findE], ?_⟩
    simp only [List.cons_append, remE, if_true]
    exact subH_front M r
def UndR (r : List Ac × Int) : Value → Hp → Prop := fun v H => ∃ w, v = .tuple #[w, .int .i64 r.2] ∧ StR r.1 w H
theorem UndR.rd (r : List Ac × Int) : RdOnly (UndR r) := by
  rintro v A B h ⟨w, rfl, h1⟩
  exact ⟨w, rfl, StR.rd _ _ _ _ h h1⟩
theorem undoE_snoc (s : List Ac) (l : List Ch) (c : Ch) (h : (undoE s l).2 = 0) : undoE s (l ++ [c]) = if (doS (undoE s l).1 c).2.2 = 0 then ((doS (undoE s l).1 c).1, 0) else ([], (doS (undoE s l).1 c).2.2) := by
  rw [undoE_app, if_pos h, undoE]
  rfl
theorem undoE_err (s : List Ac) (l : List Ch) (k : Nat) (c : Ch) (hk : l[k]? = some c) (h : (undoE s (l.take k)).2 = 0) (hd : ¬ (doS (undoE s (l.take k)).1 c).2.2 = 0) : undoE s l = ([], (doS (undoE s (l.take k)).1 c).2.2) := by
  have hlt := (List.getElem?_eq_some_iff.1 hk).1
  have e : l = (l.take k ++ [c]) ++ l.drop (k + 1) := by
    rw [show l.take k ++ [c] = l.take (k + 1) by rw [List.take_add_one, hk]; rfl, List.take_append_drop]
  conv => lhs; rw [e]
  rw [undoE_app, undoE_snoc s _ c h, if_neg hd, if_neg hd]
end Go.Ev
namespace Go.Proofs.YtkhpncfgimlleaaGreat
open Go Go.Ev Go.Proofs
set_option maxRecDepth 100000
set_option maxHeartbeats 4000000
theorem down_ok (p : Option Addr) (n c stay : Nat) : CallsV Tryz.prog 56 [.slice p n c, .int .i64 stay] [] (fun v N => ∃ b1 b2, ¬ b1 = b2 ∧ v = .func (.func 73) #[] #[.pointer (some ⟨b1, 0, none⟩), .pointer (some ⟨b2, 0, none⟩)] ∧ N = [⟨b2, 0, .cel 3, [.int .i64 stay]⟩, ⟨b1, 0, .cel 90, [.slice p n c]⟩]) := by
  refine callsO gA1_ok Tryz.mix Tryz.pl56 Tryz.func56 rfl Tryz.ntmps56 Tryz.results56 rfl (by first | rfl | assumption) (Nat.le_of_ble_eq_true rfl) (by kernel_rfl) ?_
  simp only [push_cast, Nat.reduceAdd, Nat.reduceSub, Nat.reduceMul, Nat.reduceLT, Nat.reduceLeDiff, Nat.reduceEqDiff, Nat.reduceMod, Nat.reduceDiv, Int.reduceAdd, Int.reduceSub, Int.reduceMul, Int.reduceLT, Int.reduceLE, Int.reduceEq, Int.reduceNeg, Int.reduceToNat, reduceIte, reduceCtorEq, Int.reduceBEq, Int.reduceBNe]
  intro b1 b2 hb2
  exact ⟨_, List.Sublist.refl _, b1, b2, hb2.2, rfl, rfl⟩
theorem undone_ok {M : Hp} {s : List Ac} {vs vu : Value} {undo : List Ch} {nm stay : Nat} {pm : Option Addr} {km : Nat} (hv : StR s vs M) (hu : LiR Ch.cells 31 M undo vu) (hn : s.length ≤ 1000000000) (hsl : ∀ y ∈ s, y.slots.length ≤ 1000000000000) (hul : undo.length ≤ 1000000000000) (hst : stay ≤ undo.length) :
    CallsR Tryz.prog 39 [.agg #[vs, vu, .slice pm nm km], .int .i64 stay] M (UndR (undoE s (undo.drop stay).reverse)) := by
  intro M0 hr he
  have hm := hr.marks
  replace hv := StR.rd _ _ _ _ he.symm hv
  replace hu := hu.congr he.symm
  obtain ⟨R, hR⟩ : ∃ R, R = undoE s (undo.drop stay).reverse := ⟨_, rfl⟩
  rw [← hR]
  obtain ⟨ps, ks, rfl⟩ := hv.slice
  obtain ⟨pu, ku, rfl⟩ := hu.slice
  refine callsO gA1_ok Tryz.mix Tryz.pl39 Tryz.func39 rfl Tryz.ntmps39 Tryz.results39 rfl (by first | rfl | assumption) (Nat.le_of_ble_eq_true rfl) (by kernel_rfl) ?_
  simp only [push_cast, Nat.reduceAdd, Nat.reduceSub, Nat.reduceMul, Nat.reduceLT, Nat.reduceLeDiff, Nat.reduceEqDiff, Nat.reduceMod, Nat.reduceDiv, Int.reduceAdd, Int.reduceSub, Int.reduceMul, Int.reduceLT, Int.reduceLE, Int.reduceEq, Int.reduceNeg, Int.reduceToNat, reduceIte, reduceCtorEq, Int.reduceBEq, Int.reduceBNe]
  intro b2 hb2 b4 hb4 b5 hb5
  simp only [push_cast, Nat.reduceAdd, Nat.reduceSub, Nat.reduceMul, Nat.reduceLT, Nat.reduceLeDiff, Nat.reduceEqDiff, Nat.reduceMod, Nat.reduceDiv, Int.reduceAdd, Int.reduceSub, Int.reduceMul, Int.reduceLT, Int.reduceLE, Int.reduceEq, Int.reduceNeg, Int.reduceToNat, reduceIte, reduceCtorEq, Int.reduceBEq, Int.reduceBNe, hb4, hb5]
  refine (down_ok pu undo.length ku stay).use trivial ?_
  rintro _ _ ⟨d1, d2, hd12, rfl, rfl⟩
  refine ⟨⟨trivial, trivial, trivial⟩, rfl, fun hfn => ?_⟩
  have fd2 := hfn.1
  have fd1 := hfn.2.1
  simp only [fresh] at fd1 fd2
  obtain ⟨c1, c2, c3⟩ : fresh d1 M0 ∧ fresh d2 M0 ∧ True := by
    obtain ⟨-, -, -, -, -, -, h1⟩ := fd1
    obtain ⟨-, -, -, -, -, -, h2⟩ := fd2
    exact ⟨h1, h2, trivial⟩
  have f2 : fresh b2 M0 := hb2
  have f4 : fresh b4 M0 := hb4.2.2
  have f5 : fresh b5 M0 := hb5.2.2.2.2
  simp only [push_cast, Nat.reduceAdd, Nat.reduceSub, Nat.reduceMul, Nat.reduceLT, Nat.reduceLeDiff, Nat.reduceEqDiff, Nat.reduceMod, Nat.reduceDiv, Int.reduceAdd, Int.reduceSub, Int.reduceMul, Int.reduceLT, Int.reduceLE, Int.reduceEq, Int.reduceNeg, Int.reduceToNat, reduceIte, reduceCtorEq, Int.reduceBEq, Int.reduceBNe, hb4, hb5]
  refine WpV.dup (M := M0) (L := [_, _, _, _, _]) hr ⟨c2, c1, f5, f4, f2, trivial⟩ ?_
  refine WpV.perm (H' := (⟨d2, 0, .cel 3, [.int .i64 stay]⟩ :: ⟨d1, 0, .cel 90, [.slice pu undo.length ku]⟩ :: M0) ++ ((⟨b4, 0, .cel 33, [.slice ps s.length ks]⟩ :: ⟨b5, 0, .cel 47, [.int .i64 0]⟩ :: M0) ++ [⟨b2, 0, .cel 37, [.slice ps s.length ks, .slice pu undo.length ku, .slice pm nm km]⟩])) ?_ ?_ ?_
  · classical
    refine List.perm_iff_count.2 fun a => ?_
    simp only [List.count_append, List.count_cons, List.count_nil]
    omega
  · simp [marksOf, marks_append, hm]
  have hit := down1_ok (Hc := ⟨d2, 0, .cel 3, [.int .i64 stay]⟩ :: ⟨d1, 0, .cel 90, [.slice pu undo.length ku]⟩ :: M0) (b1 := d1) (b2 := d2) (k1 := .cel 90) (k2 := .cel 3) (stay := stay) (hu.app (N := [_, _]) ⟨c2, c1, trivial⟩) hul hst (by simpa [marksOf] using hm) (by simp [findE, hd12]) (by simp [findE])
  refine rangeO gA1_ok (pl := Tryz.pl39) Tryz.mix (Hc := ⟨d2, 0, .cel 3, [.int .i64 stay]⟩ :: ⟨d1, 0, .cel 90, [.slice pu undo.length ku]⟩ :: M0) (Hm := []) hit rfl
    (X := {x : (Value × Int) × Hp // Gr M0 x.2 ∧ fresh b4 x.2 ∧ fresh b5 x.2}) (fun x => ⟨b4, 0, .cel 33, [x.1.1.1]⟩ :: ⟨b5, 0, .cel 47, [.int .i64 x.1.1.2]⟩ :: x.1.2)
    (fun k x => x.1.1.2 = 0 ∧ (undoE s ((undo.drop stay).reverse.take k)).2 = 0 ∧ StR (undoE s ((undo.drop stay).reverse.take k)).1 x.1.1.1 x.1.2 ∧ (undoE s ((undo.drop stay).reverse.take k)).1.length ≤ 1000000000 ∧ ∀ y ∈ (undoE s ((undo.drop stay).reverse.take k)).1, y.slots.length ≤ 1000000000000)
    (fun c x => c = .ret ∧ StR R.1 x.1.1.1 x.1.2 ∧ R.2 = x.1.1.2) ⟨((.slice ps s.length ks, 0), M0), Gr.refl hm, f4, f5⟩
    ?_ ?_ ?_ ?_ (by simp) (fun x => ?_) (fun x u e heu => ?_) ?_ (by kernel_rfl) (by kernel_rfl) ?_ ?_ ?_ ?_
  · exact ⟨rfl, rfl, hv, hn, hsl⟩
  · rw [← List.append_assoc]
    exact subH_front _ _
  · simp [marksOf, marks_append, hm]
  · simpa [marksOf] using hm
  · simpa [marksOf] using x.2.1.marks
  · obtain ⟨-, N, hMN, hwN, -⟩ := u.2.1
    obtain ⟨-, N', hM', -, -⟩ := x.2.1
    rw [hMN] at heu
    rcases List.mem_cons.1 heu with rfl | heu
    · exact .inl trivial
    rcases List.mem_cons.1 heu with rfl | heu
    · exact .inl trivial
    rcases List.mem_append.1 heu with heu | heu
    · exact .inr (by rw [hM']; simp [heu])
    · exact .inl (allWr_mem hwN e heu)
  · intro args ha
    obtain ⟨z, _, rfl⟩ := List.mem_map.1 ha
    rfl
  · rintro c x ⟨rfl, -⟩
    kernel_rfl
  · rintro lo k ⟨⟨⟨w, e0⟩, M1⟩, hg1, g4, g5⟩ args hk ⟨h0, hz, hw, hwn, hws⟩
    dsimp only at h0 hw hz hwn hws g4 g5 hg1 ⊢
    subst h0
    obtain ⟨c, hc, rfl⟩ := Option.map_eq_some_iff.1 ((List.getElem?_map ..).symm.trans hk)
    have hlt := (List.getElem?_eq_some_iff.1 hc).1
    have hsn := undoE_snoc s _ c hz
    rw [show (undo.drop stay).reverse.take k ++ [c] = (undo.drop stay).reverse.take (k + 1) by rw [List.take_add_one, hc]; rfl] at hsn
    obtain ⟨t, ht⟩ : ∃ t, t = (undoE s ((undo.drop stay).reverse.take k)).1 := ⟨_, rfl⟩
    have herr := undoE_err s _ k c hc hz
    rw [← ht] at hw hwn hws hsn herr
    obtain ⟨pw, kw, rfl⟩ := hw.slice
    generalize hRK : (roundK _ _ _ k : Exit → Tm → Hp → Prop) = RK
    show oC _ _ _ _ _ _ _ (parT 25 _ _ [c.v]) _
    simp only [push_cast, Nat.reduceAdd, Nat.reduceSub, Nat.reduceMul, Nat.reduceLT, Nat.reduceLeDiff, Nat.reduceEqDiff, Nat.reduceMod, Nat.reduceDiv, Int.reduceAdd, Int.reduceSub, Int.reduceMul, Int.reduceLT, Int.reduceLE, Int.reduceEq, Int.reduceNeg, Int.reduceToNat, reduceIte, reduceCtorEq, Int.reduceBEq, Int.reduceBNe, hb4, hb5]
    intro b6 hb6
    simp only [push_cast, Nat.reduceAdd, Nat.reduceSub, Nat.reduceMul, Nat.reduceLT, Nat.reduceLeDiff, Nat.reduceEqDiff, Nat.reduceMod, Nat.reduceDiv, Int.reduceAdd, Int.reduceSub, Int.reduceMul, Int.reduceLT, Int.reduceLE, Int.reduceEq, Int.reduceNeg, Int.reduceToNat, reduceIte, reduceCtorEq, Int.reduceBEq, Int.reduceBNe, hb4, hb5, hb6]
    refine ⟨hg1.marks, roSub_of fun e he => .inr (by simp [he]), ?_⟩
    refine useB [_, _, _] (sdo_ok hw hwn hws) (DoO.rd _ _) hg1.marks ⟨hb6.2.2.2.2, g4, g5, trivial⟩ fun w' N1 M2 hg2 hf hL hwN hmN hq => ?_
    obtain ⟨w1, rfl, hq⟩ := hq
    obtain ⟨pw1, kw1, rfl⟩ : ∃ p k, w1 = .slice p (doS t c).1.length k := (hq.r hf).slice
    simp only [push_cast, Nat.reduceAdd, Nat.reduceSub, Nat.reduceMul, Nat.reduceLT, Nat.reduceLeDiff, Nat.reduceEqDiff, Nat.reduceMod, Nat.reduceDiv, Int.reduceAdd, Int.reduceSub, Int.reduceMul, Int.reduceLT, Int.reduceLE, Int.reduceEq, Int.reduceNeg, Int.reduceToNat, reduceIte, reduceCtorEq, Int.reduceBEq, Int.reduceBNe, hb4, hb5, hb6]
    by_cases hd : (doS t c).2.2 = 0
    · rw [if_pos hd] at hsn
      have hri := (doS_iff.1 hd).right
      have hrl := hri.len
      rw [← hRK]
      obtain ⟨x6, x4, x5, -⟩ := hL
      have sw : ∀ {b}, fresh b (N1 ++ M2) → fresh b (M2 ++ N1) := fun h => fresh_appS (fresh_app_iff.1 h).2 (fresh_app_iff.1 h).1
      simp only [push_cast, Nat.reduceAdd, Nat.reduceSub, Nat.reduceMul, Nat.reduceLT, Nat.reduceLeDiff, Nat.reduceEqDiff, Nat.reduceMod, Nat.reduceDiv, Int.reduceAdd, Int.reduceSub, Int.reduceMul, Int.reduceLT, Int.reduceLE, Int.reduceEq, Int.reduceNeg, Int.reduceToNat, reduceIte, reduceCtorEq, Int.reduceBEq, Int.reduceBNe, hb4, hb5, hb6, hd]
      refine ⟨⟨((.slice pw1 (doS t c).1.length kw1, 0), M2 ++ N1), hg1.trans (hg2.trans ⟨hg2.marks, N1, rfl, hwN, hmN⟩), sw x4, sw x5⟩, ⟨rfl, by rw [hsn], by rw [hsn]; exact StR.rd _ _ _ _ (cellsAt_swap hf) (hq.r hf), by rw [hsn]; dsimp only; omega, fun y hy => ?_⟩, ?_⟩
      · rw [hsn] at hy
        have := (mayA_slots (hri.may y hy)).len
        omega
      · dsimp only
        refine ⟨rfl, rfl, ?_⟩
        rw [subH_skip (e := ⟨b6, 0, .cel 31, c.cells⟩) (L := N1 ++ M2) (sw x6)]
        exact subH_turn fun e he x hx h => freshN_iff.1 hf x hx e he h
    · have herr := herr hd
      rw [← hR] at herr
      rw [← hRK]
      have hb : ((doS t c).2.2 != 0) = true := bne_iff_ne.2 hd
      obtain ⟨x6, x4, x5, -⟩ := hL
      have sw : ∀ {b}, fresh b (N1 ++ M2) → fresh b (M2 ++ N1) := fun h => fresh_appS (fresh_app_iff.1 h).2 (fresh_app_iff.1 h).1
      simp only [push_cast, Nat.reduceAdd, Nat.reduceSub, Nat.reduceMul, Nat.reduceLT, Nat.reduceLeDiff, Nat.reduceEqDiff, Nat.reduceMod, Nat.reduceDiv, Int.reduceAdd, Int.reduceSub, Int.reduceMul, Int.reduceLT, Int.reduceLE, Int.reduceEq, Int.reduceNeg, Int.reduceToNat, reduceIte, reduceCtorEq, Int.reduceBEq, Int.reduceBNe, hb4, hb5, hb6, hd, hb]
      refine ⟨⟨((.slice none 0 0, (doS t c).2.2), M2 ++ N1), hg1.trans (hg2.trans ⟨hg2.marks, N1, rfl, hwN, hmN⟩), sw x4, sw x5⟩, ⟨by rw [herr]; exact StR.nil _ _, by rw [herr]⟩, rfl, rfl, ?_⟩
      dsimp only
      rw [subH_skip (e := ⟨b6, 0, .cel 31, c.cells⟩) (L := N1 ++ M2) (sw x6)]
      exact subH_turn fun e he x hx h => freshN_iff.1 hf x hx e he h
  · rintro D x hfD ⟨h0, hz, hw, hwn, hws⟩
    rw [List.length_map, List.take_length, ← hR] at hw
    obtain ⟨pw, kw, hx⟩ := hw.slice
    rw [List.length_map, List.take_length, ← hR] at hz
    rw [h0, hx] at hfD ⊢
    have hbD : ¬ D = b4 ∧ ¬ b4 = D ∧ ¬ D = b5 ∧ ¬ b5 = D ∧ fresh D x.1.2 := hfD
    simp only [push_cast, Nat.reduceAdd, Nat.reduceSub, Nat.reduceMul, Nat.reduceLT, Nat.reduceLeDiff, Nat.reduceEqDiff, Nat.reduceMod, Nat.reduceDiv, Int.reduceAdd, Int.reduceSub, Int.reduceMul, Int.reduceLT, Int.reduceLE, Int.reduceEq, Int.reduceNeg, Int.reduceToNat, reduceIte, reduceCtorEq, Int.reduceBEq, Int.reduceBNe, hb4, hb5, hbD]
    rw [dropM_eq x.2.1.marks]
    obtain ⟨N, hM, hwN, hmN⟩ := x.2.1.2
    exact ⟨N, by rw [hM]; exact ((List.sublist_append_right M0 N).cons _).cons _, hwN, hmN, fun hf => ⟨.slice pw R.1.length kw, by rw [hz], StR.rd _ _ _ _ (by rw [hM]; exact (cellsAt_swap hf).symm) (hx ▸ hw)⟩⟩
  · rintro D c x hfD ⟨rfl, hw, he⟩
    obtain ⟨pw, kw, hx⟩ := hw.slice
    rw [hx] at hfD ⊢
    have hbD : ¬ D = b4 ∧ ¬ b4 = D ∧ ¬ D = b5 ∧ ¬ b5 = D ∧ fresh D x.1.2 := hfD
    simp only [push_cast, Nat.reduceAdd, Nat.reduceSub, Nat.reduceMul, Nat.reduceLT, Nat.reduceLeDiff, Nat.reduceEqDiff, Nat.reduceMod, Nat.reduceDiv, Int.reduceAdd, Int.reduceSub, Int.reduceMul, Int.reduceLT, Int.reduceLE, Int.reduceEq, Int.reduceNeg, Int.reduceToNat, reduceIte, reduceCtorEq, Int.reduceBEq, Int.reduceBNe, hb4, hb5, hbD]
    rw [dropM_eq x.2.1.marks]
    obtain ⟨N, hM, hwN, hmN⟩ := x.2.1.2
    exact ⟨N, by rw [hM]; exact ((List.sublist_append_right M0 N).cons _).cons _, hwN, hmN, fun hf => ⟨.slice pw R.1.length kw, by rw [he], StR.rd _ _ _ _ (by rw [hM]; exact (cellsAt_swap hf).symm) (hx ▸ hw)⟩⟩
end Go.Proofs.YtkhpncfgimlleaaGreat
set_option linter.unusedSimpArgs false
set_option linter.unusedVariables false
namespace Go.Ev
noncomputable def nanIG : List Value → Option Value
  | [.int .i64 _] => some (.bool false)
  | _ => none
noncomputable def lessI : Int → Int → Bool := hid fun x y => decide (x < y)
theorem lessI_eq (x y : Int) : lessI x y = decide (x < y) := by unfold lessI; rw [hid_eq]
noncomputable def lessIG : List Value → Option Value
  | [.int .i64 x, .int .i64 y] => some (.bool (lessI x y))
  | _ => none
attribute [push_cast] nanIG lessIG
def srtI : List Int → Bool
  | [] => true
  | x :: r => upB x r
theorem srtI_cons {x y : Int} {r : List Int} : srtI (x :: y :: r) = (decide (x ≤ y) && srtI (y :: r)) := rfl
theorem upB_srt : ∀ {l : List Int} {a : Int}, upB a l = true → srtI l = true
  | [], _, _ => rfl
  | x :: r, a, h => by
    rw [upB, Bool.and_eq_true] at h
    exact h.2
theorem srtI_drop : ∀ {l : List Int} (k : Nat), srtI l = true → srtI (l.drop k) = true
  | l, 0, h => by rwa [List.drop_zero]
  | [], _ + 1, _ => rfl
  | _ :: r, k + 1, h => by rw [List.drop_succ_cons]; exact srtI_drop k (upB_srt h)
theorem srtI_step {l : List Int} {k : Nat} {x y : Int} (hx : l[k]? = some x) (hy : l[k + 1]? = some y) : srtI (l.drop k) = (decide (x ≤ y) && srtI (l.drop (k + 1))) := by
  obtain ⟨h1, rfl⟩ := List.getElem?_eq_some_iff.1 hx
  obtain ⟨h2, rfl⟩ := List.getElem?_eq_some_iff.1 hy
  rw [List.drop_eq_getElem_cons h1, List.drop_eq_getElem_cons h2, srtI_cons]
theorem upB_zero {l : List Int} : upB 0 l = (srtI l && l.all fun x => decide (0 ≤ x)) := by
  cases l with
  | nil => rfl
  | cons x r =>
    rw [upB, srtI, List.all_cons]
    cases h : upB x r with
    | false => simp
    | true =>
      rw [Bool.and_true, Bool.true_and]
      by_cases h0 : 0 ≤ x
      · have : (r.all fun x => decide (0 ≤ x)) = true := List.all_eq_true.2 fun y hy => decide_eq_true (Int.le_trans h0 (upB_ge h y hy))
        rw [this, Bool.and_true]
      · rw [decide_eq_false h0, Bool.false_and]
end Go.Ev
namespace Go.Proofs.YtkhpncfgimlleaaGreat
open Go Go.Ev Go.Proofs
set_option maxRecDepth 100000
set_option maxHeartbeats 4000000
theorem nanIG_ok (args : List Value) (v : Value) (h : nanIG args = some v) : CallsV Tryz.prog 72 args [] (Ret0 v) := by
  unfold nanIG at h
  split at h
  case h_2 => cases h
  rename_i x
  cases h
  refine callsO gA1_ok Tryz.mix Tryz.pl72 Tryz.func72 rfl Tryz.ntmps72 Tryz.results72 rfl (by first | rfl | assumption) (Nat.le_of_ble_eq_true rfl) (by kernel_rfl) ?_
  have e : (x != x) = false := bne_self_eq_false x
  simp only [push_cast, Nat.reduceAdd, Nat.reduceSub, Nat.reduceMul, Nat.reduceLT, Nat.reduceLeDiff, Nat.reduceEqDiff, Nat.reduceMod, Nat.reduceDiv, Int.reduceAdd, Int.reduceSub, Int.reduceMul, Int.reduceLT, Int.reduceLE, Int.reduceEq, Int.reduceNeg, Int.reduceToNat, reduceIte, reduceCtorEq, Int.reduceBEq, Int.reduceBNe, e]
noncomputable def gJ0 : Gam := (addG 72 nanIG gA1)
attribute [push_cast] gJ0
theorem gJ0_ok : GamOk Tryz.prog gJ0 := (addG_ok nanIG_ok gA1_ok)
theorem lessIG_ok (args : List Value) (v : Value) (h : lessIG args = some v) : CallsV Tryz.prog 54 args [] (Ret0 v) := by
  unfold lessIG at h
  split at h
  case h_2 => cases h
  rename_i x y
  cases h
  rw [lessI_eq]
  refine callsO gJ0_ok Tryz.mix Tryz.pl54 Tryz.func54 rfl Tryz.ntmps54 Tryz.results54 rfl (by first | rfl | assumption) (Nat.le_of_ble_eq_true rfl) (by kernel_rfl) ?_
  simp only [push_cast, Nat.reduceAdd, Nat.reduceSub, Nat.reduceMul, Nat.reduceLT, Nat.reduceLeDiff, Nat.reduceEqDiff, Nat.reduceMod, Nat.reduceDiv, Int.reduceAdd, Int.reduceSub, Int.reduceMul, Int.reduceLT, Int.reduceLE, Int.reduceEq, Int.reduceNeg, Int.reduceToNat, reduceIte, reduceCtorEq, Int.reduceBEq, Int.reduceBNe]
noncomputable def gJ1 : Gam := (addG 54 lessIG gJ0)
attribute [push_cast] gJ1
theorem gJ1_ok : GamOk Tryz.prog gJ1 := (addG_ok lessIG_ok gJ0_ok)
theorem LiR.openI {l : List Int} {H : Hp} {v : Value} (h : LiR intC 1 H l v) : ∃ p k, v = .slice p l.length k ∧ (l = [] ∨ ∃ b f d kd cs, p = some ⟨b, f + d, none⟩ ∧ findE H b = some ⟨b, f, kd, cs⟩ ∧
    ∀ i x, l[i]? = some x → d + i + 1 ≤ cs.length ∧ List.take 1 (List.drop (d + i) cs) = [.int .i64 x]) := by
  obtain ⟨p, k, rfl, h0⟩ := h.openC (c := intC) (s := 1) (fun _ => rfl) (by decide)
  refine ⟨p, k, rfl, h0.imp id ?_⟩
  rintro ⟨b, f, d, kd, cs, h1, h2, h3⟩
  exact ⟨b, f, d, kd, cs, h1, h2, fun i x hx => by have := h3 i x hx; rw [Nat.mul_one] at this; exact this⟩
theorem sortedI_ok {H : Hp} {l : List Int} {v : Value} (hm : marksOf H = []) (hn : l.length ≤ 1000000000000) (hl : LiR intC 1 H l v) : CallsV Tryz.prog 37 [v] H (Ret0 (.bool (srtI l))) := by
  obtain ⟨p, k, rfl, hla⟩ := LiR.openI hl
  refine callsO gJ1_ok Tryz.mix Tryz.pl37 Tryz.func37 rfl Tryz.ntmps37 Tryz.results37 rfl (by first | rfl | assumption) (Nat.le_of_ble_eq_true rfl) (by kernel_rfl) ?_
  have e0 : -9223372036854775808 ≤ (l.length : Int) - 1 ∧ (l.length : Int) - 1 ≤ 9223372036854775807 := by omega
  simp only [push_cast, Nat.reduceAdd, Nat.reduceSub, Nat.reduceMul, Nat.reduceLT, Nat.reduceLeDiff, Nat.reduceEqDiff, Nat.reduceMod, Nat.reduceDiv, Int.reduceAdd, Int.reduceSub, Int.reduceMul, Int.reduceLT, Int.reduceLE, Int.reduceEq, Int.reduceNeg, Int.reduceToNat, reduceIte, reduceCtorEq, Int.reduceBEq, Int.reduceBNe, wrap_i64' e0]
  refine loopO gJ1_ok (pl := Tryz.pl37) Tryz.mix (X := Nat)
    (fun i => ([(0, .slice p l.length k), (3, .int .i64 ((l.length : Int) - 1 - (i : Int)))], H))
    (fun i => i ≤ l.length - 1 ∧ srtI (l.drop (l.length - 1 - i)) = true) (fun i => l.length - i) 0 ?_ ?_ (by kernel_rfl) ?_
  · refine ⟨Nat.zero_le _, ?_⟩
    rw [Nat.sub_zero]
    cases l with
    | nil => rfl
    | cons x r =>
      have h1 : ((x :: r).drop ((x :: r).length - 1)).length = 1 := by simp
      obtain ⟨y, hy⟩ := List.length_eq_one_iff.1 h1
      rw [hy]; rfl
  · simp only [push_cast, Nat.reduceAdd, Nat.reduceSub, Nat.reduceMul, Nat.reduceLT, Nat.reduceLeDiff, Nat.reduceEqDiff, Nat.reduceMod, Nat.reduceDiv, Int.reduceAdd, Int.reduceSub, Int.reduceMul, Int.reduceLT, Int.reduceLE, Int.reduceEq, Int.reduceNeg, Int.reduceToNat, reduceIte, reduceCtorEq, Int.reduceBEq, Int.reduceBNe, Int.sub_zero, hm]
  · rintro i ⟨hi, hs⟩
    dsimp only at hi hs ⊢
    rcases Nat.lt_or_ge i (l.length - 1) with hlt | hge
    · obtain ⟨j, hj⟩ : ∃ j : Nat, j + 1 = l.length - 1 - i := ⟨l.length - 2 - i, by omega⟩
      obtain ⟨x, hx⟩ : ∃ x, l[j]? = some x := ⟨l[j]'(by omega), List.getElem?_eq_getElem (by omega)⟩
      obtain ⟨y, hy⟩ : ∃ y, l[j + 1]? = some y := ⟨l[j + 1]'(by omega), List.getElem?_eq_getElem (by omega)⟩
      have hst := srtI_step hx hy
      obtain ⟨q, hq⟩ : ∃ q, q = j + 1 := ⟨_, rfl⟩
      rw [hj, hs, Bool.and_true] at hst
      rw [← hq] at hy
      have hqi : (l.length : Int) - 1 - (i : Int) = (q : Int) := by omega
      have hq1 : (q : Int) - 1 = (j : Int) := by omega
      rcases hla with h0 | ⟨b, f, d, kd, cs, rfl, he, hat⟩
      · rw [h0] at hx; simp at hx
      obtain ⟨a1, a2⟩ := hat j x hx
      obtain ⟨b1, b2⟩ := hat q y hy
      have i1 : j < l.length := by omega
      have i2 : q < l.length := by omega
      have i3 : (0 : Int) < (q : Int) := by omega
      have i4 : 0 < q := by omega
      simp only [push_cast, Nat.reduceAdd, Nat.reduceSub, Nat.reduceMul, Nat.reduceLT, Nat.reduceLeDiff, Nat.reduceEqDiff, Nat.reduceMod, Nat.reduceDiv, Int.reduceAdd, Int.reduceSub, Int.reduceMul, Int.reduceLT, Int.reduceLE, Int.reduceEq, Int.reduceNeg, Int.reduceToNat, reduceIte, reduceCtorEq, Int.reduceBEq, Int.reduceBNe, hqi, hq1, i1, i2, i3, i4, he, a1, a2, b1, b2, wrap_i64' (show -9223372036854775808 ≤ (j : Int) ∧ (j : Int) ≤ 9223372036854775807 by omega)]
      rw [lessI_eq]
      split
      · rename_i h
        rw [decide_eq_true_eq] at h
        rw [decide_eq_false (by omega)] at hst
        have e : srtI l = false := Bool.eq_false_iff.2 fun h5 => by rw [srtI_drop j h5] at hst; cases hst
        rw [e]
      · rename_i h
        rw [decide_eq_false_iff_not] at h
        rw [decide_eq_true (by omega)] at hst
        exact ⟨i + 1, ⟨by omega, by rw [show l.length - 1 - (i + 1) = j by omega]; exact hst⟩, by omega, by rw [show (j : Int) = (l.length : Int) - 1 - ((i + 1 : Nat) : Int) by omega]⟩
    · have i3 : ¬ (0 : Int) < (l.length : Int) - 1 - (i : Int) := by omega
      rw [show l.length - 1 - i = 0 by omega, List.drop_zero] at hs
      simp only [push_cast, Nat.reduceAdd, Nat.reduceSub, Nat.reduceMul, Nat.reduceLT, Nat.reduceLeDiff, Nat.reduceEqDiff, Nat.reduceMod, Nat.reduceDiv, Int.reduceAdd, Int.reduceSub, Int.reduceMul, Int.reduceLT, Int.reduceLE, Int.reduceEq, Int.reduceNeg, Int.reduceToNat, reduceIte, reduceCtorEq, Int.reduceBEq, Int.reduceBNe, i3, hs]
theorem indexI_ok {H : Hp} {l : List Int} {v : Value} {g : FuncId} {caps : List Value} {f : Int → Bool} (hr : roM H) (hn : l.length ≤ 1000000000000) (hl : LiR intC 1 H l v)
    (hf : ∀ x ∈ l, CallsV Tryz.prog g (.int .i64 x :: caps) H (Ret0 (.bool (f x)))) :
    CallsV Tryz.prog 55 [v, .func (.func g) #[] caps.toArray] H (Ret0 (.int .i64 (idxF f l))) := by
  have hm := hr.marks
  obtain ⟨p, k, rfl, hla⟩ := LiR.openI hl
  refine callsO (noG_ok _) Tryz.mix Tryz.pl55 Tryz.func55 rfl Tryz.ntmps55 Tryz.results55 rfl (by first | rfl | assumption) (Nat.le_of_ble_eq_true rfl) (by kernel_rfl) ?_
  simp only [push_cast, Nat.reduceAdd, Nat.reduceSub, Nat.reduceMul, Nat.reduceLT, Nat.reduceLeDiff, Nat.reduceEqDiff, Nat.reduceMod, Nat.reduceDiv, Int.reduceAdd, Int.reduceSub, Int.reduceMul, Int.reduceLT, Int.reduceLE, Int.reduceEq, Int.reduceNeg, Int.reduceToNat, reduceIte, reduceCtorEq, Int.reduceBEq, Int.reduceBNe]
  refine loopO (noG_ok _) (pl := Tryz.pl55) Tryz.mix (X := Nat)
    (fun i => ([(0, .slice p l.length k), (1, .func (.func g) #[] caps.toArray), (7, .int .i64 l.length), (8, .int .i64 i)], H))
    (fun i => i ≤ l.length ∧ ∀ j y, j < i → l[j]? = some y → f y = false) (fun i => l.length - i) 0 ?_ ?_ (by kernel_rfl) ?_
  · exact ⟨Nat.zero_le _, fun i x h => by omega⟩
  · simp only [push_cast, Nat.reduceAdd, Nat.reduceSub, Nat.reduceMul, Nat.reduceLT, Nat.reduceLeDiff, Nat.reduceEqDiff, Nat.reduceMod, Nat.reduceDiv, Int.reduceAdd, Int.reduceSub, Int.reduceMul, Int.reduceLT, Int.reduceLE, Int.reduceEq, Int.reduceNeg, Int.reduceToNat, reduceIte, reduceCtorEq, Int.reduceBEq, Int.reduceBNe, hm]
  · rintro i ⟨hi, ho⟩
    dsimp only at hi ho ⊢
    rcases Nat.lt_or_ge i l.length with hlt | hge
    · obtain ⟨x, hx⟩ : ∃ x, l[i]? = some x := ⟨l[i], List.getElem?_eq_getElem hlt⟩
      rcases hla with rfl | ⟨b, f', d, kd, cs, rfl, hfe, hat⟩
      · simp at hlt
      obtain ⟨a1, a2⟩ := hat i x hx
      have hfx := hf x (List.mem_of_getElem? hx)
      have i1 : (i : Int) < (l.length : Int) := by omega
      simp only [push_cast, Nat.reduceAdd, Nat.reduceSub, Nat.reduceMul, Nat.reduceLT, Nat.reduceLeDiff, Nat.reduceEqDiff, Nat.reduceMod, Nat.reduceDiv, Int.reduceAdd, Int.reduceSub, Int.reduceMul, Int.reduceLT, Int.reduceLE, Int.reduceEq, Int.reduceNeg, Int.reduceToNat, reduceIte, reduceCtorEq, Int.reduceBEq, Int.reduceBNe, i1, hlt, hfe, a1, a2]
      refine hfx.pure hr.der ?_
      simp only [push_cast, Nat.reduceAdd, Nat.reduceSub, Nat.reduceMul, Nat.reduceLT, Nat.reduceLeDiff, Nat.reduceEqDiff, Nat.reduceMod, Nat.reduceDiv, Int.reduceAdd, Int.reduceSub, Int.reduceMul, Int.reduceLT, Int.reduceLE, Int.reduceEq, Int.reduceNeg, Int.reduceToNat, reduceIte, reduceCtorEq, Int.reduceBEq, Int.reduceBNe, wrap_i64' (show -9223372036854775808 ≤ (i : Int) + 1 ∧ (i : Int) + 1 ≤ 9223372036854775807 by omega)]
      simp only [sel_ite, decide_eq_true_eq, bne_iff_ne, ne_eq, beq_iff_eq]
      split
      · rename_i h
        rw [idxF_some hx h ho]
      · rename_i h
        refine ⟨i + 1, ⟨hlt, fun j y hj hy => ?_⟩, by omega, rfl⟩
        rcases Nat.lt_or_ge j i with h5 | h5
        · exact ho j y h5 hy
        · obtain rfl : j = i := by omega
          rw [hx] at hy; cases hy
          simpa using h
    · obtain rfl : i = l.length := by omega
      simp only [push_cast, Nat.reduceAdd, Nat.reduceSub, Nat.reduceMul, Nat.reduceLT, Nat.reduceLeDiff, Nat.reduceEqDiff, Nat.reduceMod, Nat.reduceDiv, Int.reduceAdd, Int.reduceSub, Int.reduceMul, Int.reduceLT, Int.reduceLE, Int.reduceEq, Int.reduceNeg, Int.reduceToNat, reduceIte, reduceCtorEq, Int.reduceBEq, Int.reduceBNe, Nat.lt_irrefl, Int.lt_irrefl, idxF_none (fun j y hj => ho j y (List.getElem?_eq_some_iff.1 hj).1 hj)]
theorem containsI_ok {H : Hp} {l : List Int} {v : Value} {g : FuncId} {caps : List Value} {f : Int → Bool} (hr : roM H) (hn : l.length ≤ 1000000000000) (hl : LiR intC 1 H l v)
    (hf : ∀ x ∈ l, CallsV Tryz.prog g (.int .i64 x :: caps) H (Ret0 (.bool (f x)))) :
    CallsV Tryz.prog 38 [v, .func (.func g) #[] caps.toArray] H (Ret0 (.bool (l.any f))) := by
  have hm := hr.marks
  obtain ⟨p, k, rfl⟩ := hl.slice
  have hi := indexI_ok hr hn hl hf
  refine callsO (noG_ok _) Tryz.mix Tryz.pl38 Tryz.func38 rfl Tryz.ntmps38 Tryz.results38 rfl (by first | rfl | assumption) (Nat.le_of_ble_eq_true rfl) (by kernel_rfl) ?_
  simp only [push_cast, Nat.reduceAdd, Nat.reduceSub, Nat.reduceMul, Nat.reduceLT, Nat.reduceLeDiff, Nat.reduceEqDiff, Nat.reduceMod, Nat.reduceDiv, Int.reduceAdd, Int.reduceSub, Int.reduceMul, Int.reduceLT, Int.reduceLE, Int.reduceEq, Int.reduceNeg, Int.reduceToNat, reduceIte, reduceCtorEq, Int.reduceBEq, Int.reduceBNe]
  refine hi.pure hr.der ?_
  have e := idxF_any (f := f) (l := l)
  rw [← e]
  simp only [push_cast, Nat.reduceAdd, Nat.reduceSub, Nat.reduceMul, Nat.reduceLT, Nat.reduceLeDiff, Nat.reduceEqDiff, Nat.reduceMod, Nat.reduceDiv, Int.reduceAdd, Int.reduceSub, Int.reduceMul, Int.reduceLT, Int.reduceLE, Int.reduceEq, Int.reduceNeg, Int.reduceToNat, reduceIte, reduceCtorEq, Int.reduceBEq, Int.reduceBNe]
theorem jright1_ok {H : Hp} {x : Int} {b nu : Nat} {vs vm : Value} {pu : Option Addr} {ku : Nat} (hr : roM H) (hb : cellsAt H b 0 3 = some [vs, .slice pu nu ku, vm]) : CallsV Tryz.prog 36 [.int .i64 x, .pointer (some ⟨b, 0, none⟩)] H (Ret0 (.bool (decide (x < 0) || decide ((nu : Int) < x)))) := by
  have hm := hr.marks
  obtain ⟨kd, c', he, h1, h2⟩ := cell_open hb
  refine callsO gJ1_ok Tryz.mix Tryz.pl36 Tryz.func36 rfl Tryz.ntmps36 Tryz.results36 rfl (by first | rfl | assumption) (Nat.le_of_ble_eq_true rfl) (by kernel_rfl) ?_
  obtain ⟨r, rfl⟩ : ∃ r, c' = vs :: .slice pu nu ku :: vm :: r := ⟨c'.drop 3, ((List.take_append_drop 3 c').symm.trans (by rw [h2])).trans (List.cons_append ..)⟩
  by_cases hx : x < 0
  · simp only [push_cast, Nat.reduceAdd, Nat.reduceSub, Nat.reduceMul, Nat.reduceLT, Nat.reduceLeDiff, Nat.reduceEqDiff, Nat.reduceMod, Nat.reduceDiv, Int.reduceAdd, Int.reduceSub, Int.reduceMul, Int.reduceLT, Int.reduceLE, Int.reduceEq, Int.reduceNeg, Int.reduceToNat, reduceIte, reduceCtorEq, Int.reduceBEq, Int.reduceBNe, he, hx, Bool.true_or]
  · simp only [push_cast, Nat.reduceAdd, Nat.reduceSub, Nat.reduceMul, Nat.reduceLT, Nat.reduceLeDiff, Nat.reduceEqDiff, Nat.reduceMod, Nat.reduceDiv, Int.reduceAdd, Int.reduceSub, Int.reduceMul, Int.reduceLT, Int.reduceLE, Int.reduceEq, Int.reduceNeg, Int.reduceToNat, reduceIte, reduceCtorEq, Int.reduceBEq, Int.reduceBNe, he, hx, Bool.false_or]
end Go.Proofs.YtkhpncfgimlleaaGreat
set_option linter.unusedSimpArgs false
set_option linter.unusedVariables false
namespace Go.Proofs.YtkhpncfgimlleaaGreat
open Go Go.Ev Go.Proofs
set_option maxRecDepth 100000
set_option maxHeartbeats 4000000
def plJR : Plans := fun i => if i = 2 then [(0, 9)] else if i = 4 then [(0, 9)] else Tryz.pl16 i
attribute [push_cast] plJR
theorem jright_ok {M : Hp} {j : Jo} {v : Value} (hv : JoR j v M) (hm : marksOf M = []) (hn : j.state.length ≤ 1000000000) (hu : j.undo.length ≤ 1000000000000) (hl : j.marks.length ≤ 1000000000000) (hsl : ∀ y ∈ j.state, y.slots.length ≤ 1000000000000) : CallsV Tryz.prog 16 [v] M (Ret0 (.bool (rightJ j))) := by
  obtain ⟨vs, vu, vm, rfl, h1, h2, h3⟩ := hv
  obtain ⟨ps, ks, rfl⟩ := h1.slice
  obtain ⟨pu, ku, rfl⟩ := h2.slice
  obtain ⟨pm, km, rfl⟩ := h3.slice
  refine callsO gJ1_ok Tryz.mix plJR Tryz.func16 rfl Tryz.ntmps16 Tryz.results16 rfl (by first | rfl | assumption) (Nat.le_of_ble_eq_true rfl) (by kernel_rfl) ?_
  simp only [push_cast, Nat.reduceAdd, Nat.reduceSub, Nat.reduceMul, Nat.reduceLT, Nat.reduceLeDiff, Nat.reduceEqDiff, Nat.reduceMod, Nat.reduceDiv, Int.reduceAdd, Int.reduceSub, Int.reduceMul, Int.reduceLT, Int.reduceLE, Int.reduceEq, Int.reduceNeg, Int.reduceToNat, reduceIte, reduceCtorEq, Int.reduceBEq, Int.reduceBNe]
  intro b1 hb1
  have f1 : fresh b1 M := hb1
  refine regO gJ1_ok ?_
  by_cases c1 : 2000 < j.undo.length
  · have e : rightJ j = false := by unfold rightJ; rw [decide_eq_false (by omega), Bool.false_and]
    have c1' : (2000 : Int) < (j.undo.length : Int) := by omega
    simp only [push_cast, Nat.reduceAdd, Nat.reduceSub, Nat.reduceMul, Nat.reduceLT, Nat.reduceLeDiff, Nat.reduceEqDiff, Nat.reduceMod, Nat.reduceDiv, Int.reduceAdd, Int.reduceSub, Int.reduceMul, Int.reduceLT, Int.reduceLE, Int.reduceEq, Int.reduceNeg, Int.reduceToNat, reduceIte, reduceCtorEq, Int.reduceBEq, Int.reduceBNe, c1, c1', e]
  by_cases c2 : 1100 < j.marks.length
  · have e : rightJ j = false := by unfold rightJ; rw [decide_eq_false (show ¬ j.marks.length ≤ 1100 by omega), Bool.false_and, Bool.and_false]
    have c2' : (1100 : Int) < (j.marks.length : Int) := by omega
    have c1' : ¬ (2000 : Int) < (j.undo.length : Int) := by omega
    simp only [push_cast, Nat.reduceAdd, Nat.reduceSub, Nat.reduceMul, Nat.reduceLT, Nat.reduceLeDiff, Nat.reduceEqDiff, Nat.reduceMod, Nat.reduceDiv, Int.reduceAdd, Int.reduceSub, Int.reduceMul, Int.reduceLT, Int.reduceLE, Int.reduceEq, Int.reduceNeg, Int.reduceToNat, reduceIte, reduceCtorEq, Int.reduceBEq, Int.reduceBNe, c1, c2, c1', c2', e]
  have c1' : ¬ (2000 : Int) < (j.undo.length : Int) := by omega
  have c2' : ¬ (1100 : Int) < (j.marks.length : Int) := by omega
  simp only [push_cast, Nat.reduceAdd, Nat.reduceSub, Nat.reduceMul, Nat.reduceLT, Nat.reduceLeDiff, Nat.reduceEqDiff, Nat.reduceMod, Nat.reduceDiv, Int.reduceAdd, Int.reduceSub, Int.reduceMul, Int.reduceLT, Int.reduceLE, Int.reduceEq, Int.reduceNeg, Int.reduceToNat, reduceIte, reduceCtorEq, Int.reduceBEq, Int.reduceBNe, c1, c2, c1', c2']
  refine useP [_] (fun M1 hr1 he1 => sortedI_ok hr1.marks hl (h3.congr he1.symm)) ⟨f1, trivial⟩ ?_
  have hre : rightJ j = (srtI j.marks && (!(j.marks.any fun x => decide (x < 0) || decide ((j.undo.length : Int) < x)) && (rightS j.state && decide ((undoE j.state j.undo.reverse).2 = 0)))) := by
    unfold rightJ
    rw [decide_eq_true (show j.undo.length ≤ 2000 by omega), decide_eq_true (show j.marks.length ≤ 1100 by omega), Bool.true_and, Bool.true_and, upB_zero]
    have : (!(j.marks.any fun x => decide (x < 0) || decide ((j.undo.length : Int) < x))) = ((j.marks.all fun x => decide (0 ≤ x)) && j.marks.all fun m => decide (m ≤ (j.undo.length : Int))) := by
      rw [Bool.eq_iff_iff]
      simp only [Bool.not_eq_true', Bool.and_eq_true, List.all_eq_true, decide_eq_true_eq, List.any_eq_false, Bool.or_eq_true, not_or]
      exact ⟨fun h => ⟨fun x hx => by have := (h x hx).1; omega, fun x hx => by have := (h x hx).2; omega⟩, fun ⟨h1, h2⟩ x hx => ⟨by have := h1 x hx; omega, by have := h2 x hx; omega⟩⟩
    rw [this]
    simp only [Bool.and_assoc]
  cases c3 : srtI j.marks
  · have e : rightJ j = false := by rw [hre, c3, Bool.false_and]
    simp only [push_cast, Nat.reduceAdd, Nat.reduceSub, Nat.reduceMul, Nat.reduceLT, Nat.reduceLeDiff, Nat.reduceEqDiff, Nat.reduceMod, Nat.reduceDiv, Int.reduceAdd, Int.reduceSub, Int.reduceMul, Int.reduceLT, Int.reduceLE, Int.reduceEq, Int.reduceNeg, Int.reduceToNat, reduceIte, reduceCtorEq, Int.reduceBEq, Int.reduceBNe, e]
  simp only [push_cast, Nat.reduceAdd, Nat.reduceSub, Nat.reduceMul, Nat.reduceLT, Nat.reduceLeDiff, Nat.reduceEqDiff, Nat.reduceMod, Nat.reduceDiv, Int.reduceAdd, Int.reduceSub, Int.reduceMul, Int.reduceLT, Int.reduceLE, Int.reduceEq, Int.reduceNeg, Int.reduceToNat, reduceIte, reduceCtorEq, Int.reduceBEq, Int.reduceBNe]
  refine useP [] (v := .bool (j.marks.any fun x => decide (x < 0) || decide ((j.undo.length : Int) < x))) (M := ⟨b1, 0, .cel 37, [.slice ps j.state.length ks, .slice pu j.undo.length ku, .slice pm j.marks.length km]⟩ :: M) (fun M1 hr1 he1 => containsI_ok (f := fun x => decide (x < 0) || decide ((j.undo.length : Int) < x)) (caps := [_]) hr1 hl ((h3.app (N := [_]) ⟨f1, trivial⟩).congr he1.symm) fun x hx => jright1_ok (nu := j.undo.length) (vs := .slice ps j.state.length ks) (pu := pu) (ku := ku) (vm := .slice pm j.marks.length km) hr1 ?_) trivial ?_
  · rw [he1]
    simp only [push_cast, Nat.reduceAdd, Nat.reduceSub, Nat.reduceMul, Nat.reduceLT, Nat.reduceLeDiff, Nat.reduceEqDiff, Nat.reduceMod, Nat.reduceDiv, Int.reduceAdd, Int.reduceSub, Int.reduceMul, Int.reduceLT, Int.reduceLE, Int.reduceEq, Int.reduceNeg, Int.reduceToNat, reduceIte, reduceCtorEq, Int.reduceBEq, Int.reduceBNe]
  cases c4 : (j.marks.any fun x => decide (x < 0) || decide ((j.undo.length : Int) < x))
  rotate_left
  · have e : rightJ j = false := by rw [hre, c4, Bool.not_true, Bool.false_and, Bool.and_false]
    simp only [push_cast, Nat.reduceAdd, Nat.reduceSub, Nat.reduceMul, Nat.reduceLT, Nat.reduceLeDiff, Nat.reduceEqDiff, Nat.reduceMod, Nat.reduceDiv, Int.reduceAdd, Int.reduceSub, Int.reduceMul, Int.reduceLT, Int.reduceLE, Int.reduceEq, Int.reduceNeg, Int.reduceToNat, reduceIte, reduceCtorEq, Int.reduceBEq, Int.reduceBNe, e]
  simp only [push_cast, Nat.reduceAdd, Nat.reduceSub, Nat.reduceMul, Nat.reduceLT, Nat.reduceLeDiff, Nat.reduceEqDiff, Nat.reduceMod, Nat.reduceDiv, Int.reduceAdd, Int.reduceSub, Int.reduceMul, Int.reduceLT, Int.reduceLE, Int.reduceEq, Int.reduceNeg, Int.reduceToNat, reduceIte, reduceCtorEq, Int.reduceBEq, Int.reduceBNe]
  refine useP [_] (fun M1 hr1 he1 => sright_ok (StR.rd _ _ _ _ he1.symm h1) hr1.marks (by omega)) ⟨f1, trivial⟩ ?_
  cases c5 : rightS j.state
  · have e : rightJ j = false := by rw [hre, c5, Bool.false_and, Bool.and_false, Bool.and_false]
    simp only [push_cast, Nat.reduceAdd, Nat.reduceSub, Nat.reduceMul, Nat.reduceLT, Nat.reduceLeDiff, Nat.reduceEqDiff, Nat.reduceMod, Nat.reduceDiv, Int.reduceAdd, Int.reduceSub, Int.reduceMul, Int.reduceLT, Int.reduceLE, Int.reduceEq, Int.reduceNeg, Int.reduceToNat, reduceIte, reduceCtorEq, Int.reduceBEq, Int.reduceBNe, e]
  have e : rightJ j = decide ((undoE j.state j.undo.reverse).2 = 0) := by rw [hre, c3, c4, c5]; rfl
  simp only [push_cast, Nat.reduceAdd, Nat.reduceSub, Nat.reduceMul, Nat.reduceLT, Nat.reduceLeDiff, Nat.reduceEqDiff, Nat.reduceMod, Nat.reduceDiv, Int.reduceAdd, Int.reduceSub, Int.reduceMul, Int.reduceLT, Int.reduceLE, Int.reduceEq, Int.reduceNeg, Int.reduceToNat, reduceIte, reduceCtorEq, Int.reduceBEq, Int.reduceBNe]
  refine regO gJ1_ok ?_
  simp only [push_cast, Nat.reduceAdd, Nat.reduceSub, Nat.reduceMul, Nat.reduceLT, Nat.reduceLeDiff, Nat.reduceEqDiff, Nat.reduceMod, Nat.reduceDiv, Int.reduceAdd, Int.reduceSub, Int.reduceMul, Int.reduceLT, Int.reduceLE, Int.reduceEq, Int.reduceNeg, Int.reduceToNat, reduceIte, reduceCtorEq, Int.reduceBEq, Int.reduceBNe]
  refine useL [_] (undone_ok (stay := 0) h1 h2 hn hsl hu (Nat.zero_le _)) (UndR.rd _) hm ⟨f1, trivial⟩ fun w M1 hg1 hf2 hq => ?_
  obtain ⟨w1, rfl, hq⟩ := hq
  rw [List.drop_zero] at hq
  rw [List.drop_zero, e]
  simp only [push_cast, Nat.reduceAdd, Nat.reduceSub, Nat.reduceMul, Nat.reduceLT, Nat.reduceLeDiff, Nat.reduceEqDiff, Nat.reduceMod, Nat.reduceDiv, Int.reduceAdd, Int.reduceSub, Int.reduceMul, Int.reduceLT, Int.reduceLE, Int.reduceEq, Int.reduceNeg, Int.reduceToNat, reduceIte, reduceCtorEq, Int.reduceBEq, Int.reduceBNe]
  congr 1
end Go.Proofs.YtkhpncfgimlleaaGreat
