/- Sa: strings.Builder: copyCheck, WriteString, String. -/
import Derived.Test.YtcglhlmajgpglaaFacts
import Derived.Test.YtcglhlmajgpglaaEvP
set_option linter.unusedSimpArgs false
set_option linter.unusedVariables false
namespace Go.Ev
theorem remE_freshN {N : Hp} {e : Ent} (h : freshN N [e]) : remE (N ++ [e]) e.blk = N := by
  induction N with
  | nil => simp [remE]
  | cons x r ih =>
    have : ¬ e.blk = x.blk := h.1.2.1
    simp only [List.cons_append, remE, if_neg this]
    rw [ih h.2]
theorem updE_freshN {N : Hp} {e : Ent} (h : freshN N [e]) (cs : List Value) : updE (N ++ [e]) e.blk cs = N ++ [{ e with cells := cs }] := by
  induction N with
  | nil => simp [updE]
  | cons x r ih =>
    have : ¬ e.blk = x.blk := h.1.2.1
    simp only [List.cons_append, updE, if_neg this]
    rw [ih h.2]
theorem freshN_blk {N : Hp} {e e' : Ent} (hb : e.blk = e'.blk) (h : freshN N [e]) : freshN N [e'] := by
  induction N with
  | nil => trivial
  | cons x r ih =>
    obtain ⟨⟨h1, h2, _⟩, h3⟩ := h
    exact ⟨⟨hb ▸ h1, hb ▸ h2, trivial⟩, ih h3⟩
def idG : List Value → Option Value
  | [x] => some x
  | _ => none
attribute [push_cast] idG
theorem byteV_len (l : List UInt8) : (byteV l).length = l.length := by simp [byteV]
theorem byteV_one (l : List UInt8) : (byteV l).all oneC = true := by simp [byteV, oneC]
theorem byteV_app (l m : List UInt8) : byteV (l ++ m) = byteV l ++ byteV m := by simp [byteV]
end Go.Ev
namespace Go.Proofs.Ytcglhlmajgpglaa
open Go Go.Ev Go.Proofs
set_option maxRecDepth 100000
set_option maxHeartbeats 4000000
theorem noEscape (args : List Value) (v : Value) (h : idG args = some v) : ExtV Try.prog 72 args v := by
  unfold idG at h
  split at h
  case h_2 => cases h
  cases h
  intro w
  rw [run_callFunc_extern Try.func72 (by kernel_rfl) (by kernel_rfl) (by kernel_rfl) (e := Extern.AbiNoEscape.same) (by kernel_rfl)]
  rw [Lib.run_noEscape]
  rfl
noncomputable def gS : Gam := (addG 72 idG noG)
attribute [push_cast] gS
theorem gS_ok : GamOk Try.prog gS := (addX_ok noEscape (noG_ok _))
theorem pk1 : ptrOk Try.prog 64 97 66 2 = true := by kernel_rfl
theorem pk2 : ptrOk Try.prog 97 64 66 2 = true := by kernel_rfl
theorem pk3 : (Try.prog.info? 66).isSome = true := by kernel_rfl
theorem pk4 : usOk Try.prog 85 5 = true := by kernel_rfl
attribute [push_cast] pk1 pk2 pk3 pk4
theorem copyCheck_ok (b : Nat) (p v : Value) (hp : p = .pointer none ∨ p = .pointer (some ⟨b, 0, none⟩)) : CallsV Try.prog 60 [.pointer (some ⟨b, 0, none⟩)] [⟨b, 0, .cel 66, [p, v]⟩]
    (fun r N => r = .tuple #[] ∧ N = [⟨b, 0, .cel 66, [.pointer (some ⟨b, 0, none⟩), v]⟩]) := by
  rcases hp with rfl | rfl
  · refine callsO gS_ok Try.mix Try.pl60 Try.func60 rfl Try.ntmps60 Try.results60 rfl (by first | rfl | assumption) (Nat.le_of_ble_eq_true rfl) (by kernel_rfl) ?_
    simp only [push_cast, Nat.reduceAdd, Nat.reduceSub, Nat.reduceMul, Nat.reduceLT, Nat.reduceLeDiff, Nat.reduceEqDiff, Nat.reduceMod, Nat.reduceDiv, Int.reduceAdd, Int.reduceSub, Int.reduceMul, Int.reduceLT, Int.reduceLE, Int.reduceEq, Int.reduceNeg, Int.reduceToNat, reduceIte, reduceCtorEq]
    exact ⟨_, List.Sublist.refl _, rfl⟩
  · refine callsO gS_ok Try.mix Try.pl60 Try.func60 rfl Try.ntmps60 Try.results60 rfl (by first | rfl | assumption) (Nat.le_of_ble_eq_true rfl) (by kernel_rfl) ?_
    simp only [push_cast, Nat.reduceAdd, Nat.reduceSub, Nat.reduceMul, Nat.reduceLT, Nat.reduceLeDiff, Nat.reduceEqDiff, Nat.reduceMod, Nat.reduceDiv, Int.reduceAdd, Int.reduceSub, Int.reduceMul, Int.reduceLT, Int.reduceLE, Int.reduceEq, Int.reduceNeg, Int.reduceToNat, reduceIte, reduceCtorEq]
    exact ⟨_, List.Sublist.refl _, rfl⟩
theorem write_ok (b : Nat) (p v : Value) (hp : p = .pointer none ∨ p = .pointer (some ⟨b, 0, none⟩)) (l : List UInt8) (Nv : Hp) (ho : OutC 5 1 (byteV l) l.length v Nv) (hf : freshN Nv [⟨b, 0, .cel 66, [p, v]⟩]) (s : ByteArray) (hlen : l.length + s.size ≤ 140737488355328) :
    CallsV Try.prog 47 [.pointer (some ⟨b, 0, none⟩), .string s] (Nv ++ [⟨b, 0, .cel 66, [p, v]⟩])
    (fun r N => r = .tuple #[.int .i64 s.size, .nilIface] ∧ ∃ v' N', OutC 5 1 (byteV (l ++ s.data.toList)) (l ++ s.data.toList).length v' N' ∧ freshN N' [⟨b, 0, .cel 66, [.pointer (some ⟨b, 0, none⟩), v']⟩] ∧ N = N' ++ [⟨b, 0, .cel 66, [.pointer (some ⟨b, 0, none⟩), v']⟩]) := by
  obtain ⟨pa, ca, rfl⟩ := ho.slice
  have fb : findE (Nv ++ [⟨b, 0, .cel 66, [p, .slice pa l.length ca]⟩]) b = some ⟨b, 0, .cel 66, [p, .slice pa l.length ca]⟩ := by
    rw [findE_freshN hf (b := b) (e := ⟨b, 0, .cel 66, [p, .slice pa l.length ca]⟩) (by simp only [push_cast, Nat.reduceAdd, Nat.reduceSub, Nat.reduceMul, Nat.reduceLT, Nat.reduceLeDiff, Nat.reduceEqDiff, Nat.reduceMod, Nat.reduceDiv, Int.reduceAdd, Int.reduceSub, Int.reduceMul, Int.reduceLT, Int.reduceLE, Int.reduceEq, Int.reduceNeg, Int.reduceToNat, reduceIte, reduceCtorEq])]; simp only [push_cast, Nat.reduceAdd, Nat.reduceSub, Nat.reduceMul, Nat.reduceLT, Nat.reduceLeDiff, Nat.reduceEqDiff, Nat.reduceMod, Nat.reduceDiv, Int.reduceAdd, Int.reduceSub, Int.reduceMul, Int.reduceLT, Int.reduceLE, Int.reduceEq, Int.reduceNeg, Int.reduceToNat, reduceIte, reduceCtorEq]
  have hm : marksOf (Nv ++ [⟨b, 0, .cel 66, [p, .slice pa l.length ca]⟩]) = [] := by rw [marks_append, ho.wr.2]; rfl
  have hsz : s.data.toList.length = s.size := by rw [Array.length_toList]; rfl
  refine callsO gS_ok Try.mix Try.pl47 Try.func47 rfl Try.ntmps47 Try.results47 rfl (by first | rfl | assumption) (Nat.le_of_ble_eq_true rfl) (by kernel_rfl) ?_
  simp only [push_cast, Nat.reduceAdd, Nat.reduceSub, Nat.reduceMul, Nat.reduceLT, Nat.reduceLeDiff, Nat.reduceEqDiff, Nat.reduceMod, Nat.reduceDiv, Int.reduceAdd, Int.reduceSub, Int.reduceMul, Int.reduceLT, Int.reduceLE, Int.reduceEq, Int.reduceNeg, Int.reduceToNat, reduceIte, reduceCtorEq]
  refine CallsV.useM (copyCheck_ok b p (.slice pa l.length ca) hp) fb rfl trivial ?_
  rintro r N ⟨rfl, rfl⟩
  refine ⟨⟨trivial, trivial⟩, rfl, fun hf' => ?_⟩
  rw [show remE (Nv ++ [⟨b, 0, .cel 66, [p, .slice pa l.length ca]⟩]) b = Nv from remE_freshN hf] at hf' ⊢
  simp only [push_cast, Nat.reduceAdd, Nat.reduceSub, Nat.reduceMul, Nat.reduceLT, Nat.reduceLeDiff, Nat.reduceEqDiff, Nat.reduceMod, Nat.reduceDiv, Int.reduceAdd, Int.reduceSub, Int.reduceMul, Int.reduceLT, Int.reduceLE, Int.reduceEq, Int.reduceNeg, Int.reduceToNat, reduceIte, reduceCtorEq]
  rw [show (⟨b, 0, .cel 66, [.pointer (some ⟨b, 0, none⟩), .slice pa l.length ca]⟩ :: Nv : Hp) = ⟨b, 0, .cel 66, [.pointer (some ⟨b, 0, none⟩), .slice pa l.length ca]⟩ :: (Nv ++ []) by rw [List.append_nil]]
  refine append_out1 (e := 5) (sz := 1) (by_ := 1) (n := l.length) (m := s.size) (ys := byteV s.data.toList) ho (by rw [List.append_nil]; exact hf'.1) (by simp only [push_cast, Nat.reduceAdd, Nat.reduceSub, Nat.reduceMul, Nat.reduceLT, Nat.reduceLeDiff, Nat.reduceEqDiff, Nat.reduceMod, Nat.reduceDiv, Int.reduceAdd, Int.reduceSub, Int.reduceMul, Int.reduceLT, Int.reduceLE, Int.reduceEq, Int.reduceNeg, Int.reduceToNat, reduceIte, reduceCtorEq]) (by simp only [push_cast, Nat.reduceAdd, Nat.reduceSub, Nat.reduceMul, Nat.reduceLT, Nat.reduceLeDiff, Nat.reduceEqDiff, Nat.reduceMod, Nat.reduceDiv, Int.reduceAdd, Int.reduceSub, Int.reduceMul, Int.reduceLT, Int.reduceLE, Int.reduceEq, Int.reduceNeg, Int.reduceToNat, reduceIte, reduceCtorEq]) (by rw [byteV_len, hsz, Nat.mul_one]) (byteV_one _) (by unfold two47; omega) fun v' N' ho' hf2 => ?_
  obtain ⟨pb, cb, rfl⟩ := ho'.slice
  have fb' : findE (N' ++ [⟨b, 0, .cel 66, [.pointer (some ⟨b, 0, none⟩), .slice pa l.length ca]⟩]) b = some ⟨b, 0, .cel 66, [.pointer (some ⟨b, 0, none⟩), .slice pa l.length ca]⟩ := by
    rw [findE_freshN hf2 (b := b) (e := ⟨b, 0, .cel 66, [.pointer (some ⟨b, 0, none⟩), .slice pa l.length ca]⟩) (by simp only [push_cast, Nat.reduceAdd, Nat.reduceSub, Nat.reduceMul, Nat.reduceLT, Nat.reduceLeDiff, Nat.reduceEqDiff, Nat.reduceMod, Nat.reduceDiv, Int.reduceAdd, Int.reduceSub, Int.reduceMul, Int.reduceLT, Int.reduceLE, Int.reduceEq, Int.reduceNeg, Int.reduceToNat, reduceIte, reduceCtorEq])]; simp only [push_cast, Nat.reduceAdd, Nat.reduceSub, Nat.reduceMul, Nat.reduceLT, Nat.reduceLeDiff, Nat.reduceEqDiff, Nat.reduceMod, Nat.reduceDiv, Int.reduceAdd, Int.reduceSub, Int.reduceMul, Int.reduceLT, Int.reduceLE, Int.reduceEq, Int.reduceNeg, Int.reduceToNat, reduceIte, reduceCtorEq]
  have ub : ∀ cs, updE (N' ++ [⟨b, 0, .cel 66, [.pointer (some ⟨b, 0, none⟩), .slice pa l.length ca]⟩]) b cs = N' ++ [⟨b, 0, .cel 66, cs⟩] := fun cs => updE_freshN hf2 cs
  have hm2 : marksOf (N' ++ [⟨b, 0, .cel 66, [.pointer (some ⟨b, 0, none⟩), .slice pb (l.length + s.size) cb]⟩]) = [] := by rw [marks_append, ho'.wr.2]; rfl
  simp only [push_cast, Nat.reduceAdd, Nat.reduceSub, Nat.reduceMul, Nat.reduceLT, Nat.reduceLeDiff, Nat.reduceEqDiff, Nat.reduceMod, Nat.reduceDiv, Int.reduceAdd, Int.reduceSub, Int.reduceMul, Int.reduceLT, Int.reduceLE, Int.reduceEq, Int.reduceNeg, Int.reduceToNat, reduceIte, reduceCtorEq, fb', ub]
  refine ⟨N' ++ [⟨b, 0, .cel 66, [.pointer (some ⟨b, 0, none⟩), .slice pb (l.length + s.size) cb]⟩], ?_, .slice pb (l.length + s.size) cb, N', ?_, freshN_blk (by rfl) hf2, rfl⟩
  · rw [dropM_eq hm2]; exact List.Sublist.refl _
  · rw [byteV_app, List.length_append, hsz]; exact ho'
def plStr : Plans := fun i => if i = 1 then [(0, 0), (1, 0), (2, 0), (3, 0), (5, 0), (6, 0), (7, 0), (8, 0), (9, 0), (4, 2), (10, 1), (11, 0)] else []
attribute [push_cast] plStr
theorem string_ok (b : Nat) (p v : Value) (l : List UInt8) (hl : l.length < 9223372036854775807) (Nv : Hp) (ho : OutC 5 1 (byteV l) l.length v Nv) (hf : freshN Nv [⟨b, 0, .cel 66, [p, v]⟩]) :
    CallsV Try.prog 48 [.pointer (some ⟨b, 0, none⟩)] (Nv ++ [⟨b, 0, .cel 66, [p, v]⟩]) (fun r N => r = .string ⟨l.toArray⟩ ∧ N = []) := by
  rcases ho with ⟨h0, h1, rfl, rfl⟩ | ⟨g, c, h0, rfl, hc, hcl, rfl⟩
  · obtain rfl : l = [] := List.eq_nil_of_length_eq_zero h0
    refine callsO gS_ok Try.mix plStr Try.func48 rfl Try.ntmps48 Try.results48 rfl (by first | rfl | assumption) (Nat.le_of_ble_eq_true rfl) (by kernel_rfl) ?_
    simp only [push_cast, Nat.reduceAdd, Nat.reduceSub, Nat.reduceMul, Nat.reduceLT, Nat.reduceLeDiff, Nat.reduceEqDiff, Nat.reduceMod, Nat.reduceDiv, Int.reduceAdd, Int.reduceSub, Int.reduceMul, Int.reduceLT, Int.reduceLE, Int.reduceEq, Int.reduceNeg, Int.reduceToNat, reduceIte, reduceCtorEq]
    exact ⟨[], List.nil_sublist _, rfl, rfl⟩
  · simp only [push_cast, Nat.reduceAdd, Nat.reduceSub, Nat.reduceMul, Nat.reduceLT, Nat.reduceLeDiff, Nat.reduceEqDiff, Nat.reduceMod, Nat.reduceDiv, Int.reduceAdd, Int.reduceSub, Int.reduceMul, Int.reduceLT, Int.reduceLE, Int.reduceEq, Int.reduceNeg, Int.reduceToNat, reduceIte, reduceCtorEq] at hf
    have c0 : ¬ c = 0 := by omega
    have n0 : ¬ (l.length : Int) = 0 := by omega
    have n1 : (0 : Int) < (l.length : Int) := by omega
    have n2 : (l.length : Int) ≤ 9223372036854775807 := by omega
    have tk : List.take l.length (byteV l) = byteV l := List.take_of_length_le (by rw [byteV_len]; exact Nat.le_refl _)
    refine callsO gS_ok Try.mix plStr Try.func48 rfl Try.ntmps48 Try.results48 rfl (by first | rfl | assumption) (Nat.le_of_ble_eq_true rfl) (by kernel_rfl) ?_
    simp only [push_cast, Nat.reduceAdd, Nat.reduceSub, Nat.reduceMul, Nat.reduceLT, Nat.reduceLeDiff, Nat.reduceEqDiff, Nat.reduceMod, Nat.reduceDiv, Int.reduceAdd, Int.reduceSub, Int.reduceMul, Int.reduceLT, Int.reduceLE, Int.reduceEq, Int.reduceNeg, Int.reduceToNat, reduceIte, reduceCtorEq, hf, c0, n0, n1, n2, byteV_len, tk]
    exact ⟨[], List.nil_sublist _, rfl⟩
end Go.Proofs.Ytcglhlmajgpglaa
