/- Texts of this claim, merged by program: Ii Ij Vd Ve Vi Vj Ik. -/
import Derived.Test.YtpcjmmdgopihcaaGreatDoorZgAs
import Derived.Test.YtpcjmmdgopihcaaGreatDoorZgAi
import Derived.Test.YtpcjmmdgopihcaaGreatDoorZgAq
import Derived.Test.YtpcjmmdgopihcaaGreatDoorZgAm
set_option linter.unusedSimpArgs false
set_option linter.unusedVariables false
set_option maxRecDepth 100000
set_option maxHeartbeats 4000000
namespace Go.Ev
theorem cellsAt_open {M : Hp} {b n : Nat} {l : List Value} (h : cellsAt M b 0 n = some l) : ∃ kd cs, findE M b = some ⟨b, 0, kd, cs⟩ ∧ n ≤ cs.length ∧ List.take n cs = l := by
 unfold cellsAt at h
 cases he : findE M b with
 | none => rw [he] at h; cases h
 | some e =>
   rw [he] at h
   have hb := (findE_mem he).2
   obtain ⟨b, f, kd, cs⟩ := e
   dsimp only at hb h
   subst hb
   by_cases hf : f ≤ 0
   · obtain rfl := Nat.le_zero.1 hf
     rw [if_pos hf] at h
     unfold subL at h
     split at h
     · rename_i h2
       refine ⟨kd, cs, rfl, by omega, ?_⟩
       have := Option.some.inj h
       rw [Nat.sub_self, List.drop_zero] at this
       exact this
     · cases h
   · rw [if_neg hf] at h; cases h
theorem subH_rotI {e : Ent} : ∀ {Hc : Hp}, fresh e.blk Hc → subH (e :: Hc) (Hc ++ [e])
 | [], _ => by
   refine ⟨by simp [findE], ?_⟩
   exact trivial
 | x :: r, h => by
   have h1 : ¬ x.blk = e.blk := h.2.1
   refine ⟨by simp [findE, h1], ?_⟩
   have : remE (e :: x :: r) x.blk = e :: r := by simp [remE, h1]
   rw [this]
   exact subH_rotI h.2.2
def itE : List Value := [.bool true, .string .empty, .slice none 0 0]
end Go.Ev
namespace Go.Proofs.YtpcjmmdgopihcaaGreatDoor
open Go Go.Ev Go.Proofs
theorem values0_ok {Hc : Hp} {b : Nat} {k : Kind} (hmc : marksOf Hc = []) (h : findE Hc b = some ⟨b, 0, k, [.slice none 0 0]⟩) : IterV Tryz.prog 124 [.pointer (some ⟨b, 0, none⟩)] Hc [] := by
 refine ⟨enterO Tryz.func124 rfl rfl, fun X Ho I St l x0 hro hmk h0 hy => ?_⟩
 have h' := fun z => findE_appT (B := Ho z) h
 have hm0 : marksOf (Hc ++ Ho x0) = [] := by rw [marks_append, hmc, hmk]; rfl
 refine callsO gI0_ok Tryz.mix Tryz.pl124 Tryz.func124 rfl Tryz.ntmps124 Tryz.results124 rfl (by first | rfl | assumption) (Nat.le_of_ble_eq_true rfl) (by kernel_rfl) ?_
 simp only [push_cast, seval, reduceCtorEq, h']
 refine unrollO gI0_ok (pl := Tryz.pl124) Tryz.mix 1 (by kernel_rfl) ?_
 simp only [push_cast, seval, reduceCtorEq, h']
 refine ⟨Ho x0, ?_, x0, .inl h0, rfl⟩
 rw [dropM_eq (by rw [marks_append, hmc, hmk]; rfl)]
 exact List.sublist_append_right _ _
theorem items0_ok {Hc : Hp} {b c : Nat} {k : Kind} (hmc : marksOf Hc = []) (h : findE Hc b = some ⟨b, 0, k, [.slice none 0 0]⟩) : IterV Tryz.prog 76 [.pointer (some ⟨b, 0, none⟩), .pointer (some ⟨c, 0, none⟩)] Hc [] := by
 refine ⟨enterO Tryz.func76 rfl rfl, fun X Ho I St l x0 hro hmk h0 hy => ?_⟩
 have h' := fun z => findE_appT (B := Ho z) h
 have hm0 : marksOf (Hc ++ Ho x0) = [] := by rw [marks_append, hmc, hmk]; rfl
 refine callsO gI0_ok Tryz.mix Tryz.pl76 Tryz.func76 rfl Tryz.ntmps76 Tryz.results76 rfl (by first | rfl | assumption) (Nat.le_of_ble_eq_true rfl) (by kernel_rfl) ?_
 simp only [push_cast, seval, reduceCtorEq, h']
 refine unrollO gI0_ok (pl := Tryz.pl76) Tryz.mix 1 (by kernel_rfl) ?_
 simp only [push_cast, seval, reduceCtorEq, h']
 refine ⟨Ho x0, ?_, x0, .inl h0, rfl⟩
 rw [dropM_eq (by rw [marks_append, hmc, hmk]; rfl)]
 exact List.sublist_append_right _ _
theorem valuesI_ok : CallsV Tryz.prog 102 [.slice none 0 0] [] (fun v N => ∃ b, v = .func (.func 124) #[] #[.pointer (some ⟨b, 0, none⟩)] ∧ N = [⟨b, 0, .cel 88, [.slice none 0 0]⟩]) := by
 refine callsO gI0_ok Tryz.mix Tryz.pl102 Tryz.func102 rfl Tryz.ntmps102 Tryz.results102 rfl (by first | rfl | assumption) (Nat.le_of_ble_eq_true rfl) (by kernel_rfl) ?_
 simp only [push_cast, seval, reduceCtorEq]
 intro b
 try simp only [push_cast, seval, reduceCtorEq]
 exact ⟨[_], List.Sublist.refl _, b, rfl, rfl⟩
theorem items_ok : CallsV Tryz.prog 55 [.slice none 0 0] [] (fun v N => ∃ b c, v = .func (.func 76) #[] #[.pointer (some ⟨b, 0, none⟩), .pointer (some ⟨c, 0, none⟩)] ∧ N = [⟨c, 0, .cel 110, [.func (.func 74) #[] #[]]⟩, ⟨b, 0, .cel 22, [.slice none 0 0]⟩] ∧ ¬ b = c) := by
 refine callsO gI0_ok Tryz.mix Tryz.pl55 Tryz.func55 rfl Tryz.ntmps55 Tryz.results55 rfl (by first | rfl | assumption) (Nat.le_of_ble_eq_true rfl) (by kernel_rfl) ?_
 simp only [push_cast, seval, reduceCtorEq]
 intro b c hc
 try simp only [push_cast, seval, reduceCtorEq, hc]
 exact ⟨[_, _], List.Sublist.refl _, b, c, rfl, rfl, hc.2⟩
theorem appItems0_ok {gf : FuncId} {caps : List Value} {Hc : Hp} (hit : IterV Tryz.prog gf caps Hc []) (hmc : marksOf Hc = []) : CallsV Tryz.prog 73 [.slice none 0 0, .func (.func gf) #[] caps.toArray] Hc (Ret0 (.slice none 0 0)) := by
 refine callsO gI0_ok Tryz.mix Tryz.pl73 Tryz.func73 rfl Tryz.ntmps73 Tryz.results73 rfl (by first | rfl | assumption) (Nat.le_of_ble_eq_true rfl) (by kernel_rfl) ?_
 simp only [push_cast, seval, reduceCtorEq]
 intro b2 hb2
 refine rangeO gI0_ok (pl := Tryz.pl73) Tryz.mix (Hc := Hc) (Hm := []) hit rfl
  (X := Unit) (fun _ => [⟨b2, 0, .cel 88, [.slice none 0 0]⟩]) (fun _ _ => True) (fun _ _ => False) ()
  trivial ?_ ?_ hmc (by simp) (fun s => rfl) (fun s u e he => .inl ?_) (by simp) (by kernel_rfl) (by kernel_rfl) (fun _ _ h => h.elim) (fun _ _ _ _ h => by simp at h) ?_ (fun _ _ _ _ h => h.elim)
 · exact subH_rotI hb2
 · simp [marksOf, hmc]
 · simp at he; subst he; trivial
 · intro D x hD _
   simp only [push_cast, seval, reduceCtorEq] at hD
   simp only [push_cast, seval, reduceCtorEq, hD]
theorem collect0_ok {gf : FuncId} {caps : List Value} {Hc : Hp} (hit : IterV Tryz.prog gf caps Hc []) (hmc : marksOf Hc = []) (hd : derE Hc Hc) : CallsV Tryz.prog 54 [.func (.func gf) #[] caps.toArray] Hc (Ret0 (.slice none 0 0)) := by
 refine callsO gI0_ok Tryz.mix Tryz.pl54 Tryz.func54 rfl Tryz.ntmps54 Tryz.results54 rfl (by first | rfl | assumption) (Nat.le_of_ble_eq_true rfl) (by kernel_rfl) ?_
 simp only [push_cast, seval, reduceCtorEq]
 refine (appItems0_ok hit hmc).pure hd ?_
 simp only [push_cast, seval, reduceCtorEq]
theorem list0_ok : CallsV Tryz.prog 53 [.slice none 0 0] [] (Ret0 (.agg itE.toArray)) := by
 refine callsO gI0_ok Tryz.mix Tryz.pl53 Tryz.func53 rfl Tryz.ntmps53 Tryz.results53 rfl (by first | rfl | assumption) (Nat.le_of_ble_eq_true rfl) (by kernel_rfl) ?_
 simp only [push_cast, seval, reduceCtorEq]
 exact rfl
theorem all_ok : CallsV Tryz.prog 100 [.agg itE.toArray, .int .i64 1] [] (fun v N => ∃ b c, v = .func (.func 121) #[] #[.pointer (some ⟨c, 0, none⟩), .pointer (some ⟨b, 0, none⟩)] ∧ N = [⟨c, 0, .cel 3, [.int .i64 1]⟩, ⟨b, 0, .cel 90, itE⟩] ∧ ¬ c = b ∧ ¬ b = c) := by
 refine callsO gI0_ok Tryz.mix Tryz.pl100 Tryz.func100 rfl Tryz.ntmps100 Tryz.results100 rfl (by first | rfl | assumption) (Nat.le_of_ble_eq_true rfl) (by kernel_rfl) ?_
 simp only [push_cast, seval, reduceCtorEq]
 intro b c hc
 try simp only [push_cast, seval, reduceCtorEq, hc]
 exact ⟨[_, _], List.Sublist.refl _, b, c, rfl, rfl, hc.1, hc.2⟩
theorem all1_ok {Hc : Hp} {b c : Nat} {kb kc : Kind} (hmc : marksOf Hc = []) (hb : findE Hc b = some ⟨b, 0, kb, itE⟩) (hc : findE Hc c = some ⟨c, 0, kc, [.int .i64 1]⟩) :
  IterV Tryz.prog 121 [.pointer (some ⟨c, 0, none⟩), .pointer (some ⟨b, 0, none⟩)] Hc [[.int .i64 1, .agg itE.toArray]] := by
 refine ⟨enterO Tryz.func121 rfl rfl, fun X Ho I St l x0 hro hmk h0 hy => ?_⟩
 have hmarks : ∀ x, marksOf (Hc ++ Ho x) = [] := fun x => by rw [marks_append, hmc, hmk]; rfl
 have hm0 := hmarks x0
 have hb' := fun z => findE_appT (B := Ho z) hb
 have hc' := fun z => findE_appT (B := Ho z) hc
 have yl : ∀ (e : Ent) (K' : Value → Hp → Prop), marksOf [e] = [] → (∀ x', I 1 x' → K' (.bool true) (Hc ++ (Ho x' ++ [e]))) → (∀ x', St x' → K' (.bool false) (Hc ++ (Ho x' ++ [e]))) → YieldV Tryz.prog l [.int .i64 1, .agg itE.toArray] (e :: (Hc ++ Ho x0)) K' := fun e K' hm ht hf => by
  refine (hy 0 x0 [.int .i64 1, .agg itE.toArray] rfl h0).frame2 ?_ hm ?_
  · rintro v H' (⟨rfl, x', _, rfl⟩ | ⟨rfl, x', _, rfl⟩) <;> exact hro x0 x'
  · rintro v H' (⟨rfl, x', h, rfl⟩ | ⟨rfl, x', h, rfl⟩)
    · exact ht x' h
    · exact hf x' h
 have yf : ∀ (x' : X) (e : Ent), marksOf [e] = [] → (I 1 x' ∨ St x') → ∃ H'_1, List.Sublist H'_1 (dropM (Hc ++ (Ho x' ++ [e]))) ∧ ∃ x, (I 1 x ∨ St x) ∧ H'_1 = Ho x := fun x' e hm hst => by
  refine ⟨Ho x', ?_, x', hst, rfl⟩
  rw [← List.append_assoc, dropM_eq (by rw [marks_append, hmarks, hm]; rfl)]
  exact (List.sublist_append_right _ _).trans (List.sublist_append_left _ _)
 have ei : itE = [.bool true, .string .empty, .slice none 0 0] := rfl
 refine callsO gI0_ok Tryz.mix Tryz.pl121 Tryz.func121 rfl Tryz.ntmps121 Tryz.results121 rfl (by first | rfl | assumption) (Nat.le_of_ble_eq_true rfl) (by kernel_rfl) ?_
 simp only [push_cast, seval, reduceCtorEq]
 intro b3 hb3
 have d1 := (fresh_findS hb3 (hb' x0)).2
 have d2 := (fresh_findS hb3 (hc' x0)).2
 have il : itE.length = 3 := rfl
 have it3 : List.take 3 itE = itE := rfl
 have it2 : List.take 1 (List.drop 2 itE) = [.slice none 0 0] := rfl
 try simp only [push_cast, seval, reduceCtorEq, d1, d2, hb', hc', il, it3]
 refine yl ⟨b3, 0, .cel 149, [.func (.yield l) #[] #[]]⟩ _ rfl (fun x' hx' => ?_) (fun x' hx' => ?_)
 · have hb2 := findE_appT (B := Ho x' ++ [⟨b3, 0, .cel 149, [.func (.yield l) #[] #[]]⟩]) hb
   have hc2 := findE_appT (B := Ho x' ++ [⟨b3, 0, .cel 149, [.func (.yield l) #[] #[]]⟩]) hc
   have hm2 : marksOf (Hc ++ (Ho x' ++ [⟨b3, 0, .cel 149, [.func (.yield l) #[] #[]]⟩])) = [] := by rw [← List.append_assoc, marks_append, hmarks]; rfl
   simp only [push_cast, seval, reduceCtorEq, hb2, hc2, il, it2]
   refine unrollO gI0_ok (pl := Tryz.pl121) Tryz.mix 1 (by kernel_rfl) ?_
   simp only [push_cast, seval, reduceCtorEq, hb2, hc2]
   exact yf x' _ rfl (.inl hx')
 · simp only [push_cast, seval, reduceCtorEq]
   exact yf x' _ rfl (.inr hx')
def plRR0 : Plans := fun i => if i = 6 then [(0, 9)] else Tryz.pl71 i
attribute [push_cast] plRR0
theorem rright0_ok : CallsV Tryz.prog 71 [.agg itE.toArray] [] (Ret0 (.bool true)) := by
 have ei : itE = [.bool true, .string .empty, .slice none 0 0] := rfl
 refine callsO gI0_ok Tryz.mix plRR0 Tryz.func71 rfl Tryz.ntmps71 Tryz.results71 rfl (by first | rfl | assumption) (Nat.le_of_ble_eq_true rfl) (by kernel_rfl) ?_
 simp only [push_cast, seval, reduceCtorEq]
 intro b1 b2 hb2 b3 hb3
 try simp only [push_cast, seval, reduceCtorEq, hb2, hb3]
 refine (all_ok).use trivial ?_
 rintro _ _ ⟨bx, bd, rfl, rfl, hne, hne2⟩
 refine ⟨⟨trivial, trivial, trivial⟩, rfl, fun hfn => ?_⟩
 simp only [push_cast, seval, reduceCtorEq] at hfn
 try simp only [push_cast, seval, reduceCtorEq, hb2, hb3, hfn]
 refine rangeO gI0_ok (pl := plRR0) Tryz.mix (Hc := [⟨bd, 0, .cel 3, [.int .i64 1]⟩, ⟨bx, 0, .cel 90, itE⟩]) (Hm := []) (all1_ok (b := bx) (c := bd) (kb := .cel 90) (kc := .cel 3) rfl (by simp [findE, hne2]) (by simp [findE])) rfl
  (X := Nat) (fun m => [⟨b3, 0, .cel 3, [.int .i64 m]⟩, ⟨b2, 0, .cel 4, [.bool false]⟩, ⟨b1, 0, .cel 90, itE⟩])
  (fun k m => m = k) (fun _ _ => False) 0
  rfl ?_ rfl rfl (by simp) (fun s => rfl) (fun s u e he => .inl ?_) (by simp) (by kernel_rfl) (by kernel_rfl) (fun _ _ h => h.elim) ?_ ?_ (fun _ _ _ _ h => h.elim)
 · simp only [push_cast, seval, reduceCtorEq, hb2, hb3, hfn, hne, hne2]
 · simp at he; rcases he with rfl | rfl | rfl <;> trivial
 · rintro lo k m args hk rfl
   obtain ⟨rfl, rfl⟩ : m = 0 ∧ args = [.int .i64 1, .agg itE.toArray] := by
    cases m with
    | zero => exact ⟨rfl, (Option.some.inj hk).symm⟩
    | succ n => simp at hk
   have w1 : IntKind.i64.wrap 1 = 1 := by decide
   simp only [push_cast, seval, reduceCtorEq, ei, hb2, hb3, w1]
   intro b5 hb5
   simp only [push_cast, seval, reduceCtorEq, ei, hb2, hb3, hb5, w1]
   refine regO gI0_ok ?_
   have be : (ByteArray.empty.toList == ({ data := #[] } : ByteArray).toList) = true := beq_self_eq_true _
   simp only [push_cast, seval, reduceCtorEq, ei, hb2, hb3, hb5, w1, be]
   exact ⟨1, rfl, rfl⟩
 · intro D m hD hm
   simp only [push_cast, seval, reduceCtorEq] at hD
   simp only [push_cast, seval, reduceCtorEq, hb2, hb3, hD]
theorem head0_ok : CallsV Tryz.prog 103 [.int .i64 192, .int .i64 0] [] (Ret0 (.string ⟨#[192]⟩)) := by
 have w1 : IntKind.i64.wrap 192 = 192 := by decide
 have w2 : IntKind.u8.wrap 192 = 192 := by decide
 refine callsO gI0_ok Tryz.mix Tryz.pl103 Tryz.func103 rfl Tryz.ntmps103 Tryz.results103 rfl (by first | rfl | assumption) (Nat.le_of_ble_eq_true rfl) (by kernel_rfl) ?_
 have hb : bytesOf [.int .u8 192] = some [192] := bytesOf_byteV [192]
 simp only [push_cast, seval, reduceCtorEq, w1, w2, hb]
theorem string0_ok {M : Hp} {b : Nat} {p : Value} (h : cellsAt M b 0 2 = some [p, .slice none 0 0]) (hm : marksOf M = []) : CallsV Tryz.prog 123 [.pointer (some ⟨b, 0, none⟩)] M (Ret0 (.string .empty)) := by
 obtain ⟨kd, cs, he, hl, ht⟩ := cellsAt_open h
 have h1 : List.take 1 (List.drop 1 cs) = [.slice none 0 0] := by
  have := congrArg (fun q => List.take 1 (List.drop 1 q)) ht
  rw [List.drop_take, List.take_take] at this
  exact this
 have l1 : 2 ≤ cs.length := hl
 refine callsO gI0_ok Tryz.mix plStr Tryz.func123 rfl Tryz.ntmps123 Tryz.results123 rfl (by first | rfl | assumption) (Nat.le_of_ble_eq_true rfl) (by kernel_rfl) ?_
 simp only [push_cast, seval, reduceCtorEq, he, h1, l1]
theorem join0_ok (b : Nat) : CallsV Tryz.prog 101 [.func (.func 124) #[] #[.pointer (some ⟨b, 0, none⟩)], .func (.func 72) #[] #[]] [⟨b, 0, .ro, [.slice none 0 0]⟩] (Ret0 (.string .empty)) := by
 refine callsO gI0_ok Tryz.mix Tryz.pl101 Tryz.func101 rfl Tryz.ntmps101 Tryz.results101 rfl (by first | rfl | assumption) (Nat.le_of_ble_eq_true rfl) (by kernel_rfl) ?_
 simp only [push_cast, seval, reduceCtorEq]
 intro b3 hb3 b5 hb5
 try simp only [push_cast, seval, reduceCtorEq, hb3, hb5]
 refine rangeO gI0_ok (pl := Tryz.pl101) Tryz.mix (Hc := [⟨b, 0, .ro, [.slice none 0 0]⟩]) (Hm := []) (values0_ok (b := b) (k := .ro) rfl (by simp [findE])) rfl
  (X := Unit) (fun _ => [⟨b5, 0, .cel 152, [.pointer none, .slice none 0 0]⟩, ⟨b3, 0, .cel 107, [.func (.func 72) #[] #[]]⟩]) (fun _ _ => True) (fun _ _ => False) ()
  trivial ?_ rfl rfl (by simp) (fun s => rfl) (fun s u e he => .inl ?_) (by simp) (by kernel_rfl) (by kernel_rfl) (fun _ _ h => h.elim) (fun _ _ _ _ h => by simp at h) ?_ (fun _ _ _ _ h => h.elim)
 · simp only [push_cast, seval, reduceCtorEq, hb3, hb5]
 · simp at he; rcases he with rfl | rfl <;> trivial
 · intro D x hD _
   simp only [push_cast, seval, reduceCtorEq] at hD
   simp only [push_cast, seval, reduceCtorEq, hD, hb5]
   refine useP [_] (M := [⟨b5, 0, .cel 152, [.pointer none, .slice none 0 0]⟩, ⟨b3, 0, .cel 107, [.func (.func 72) #[] #[]]⟩]) (fun M0 hr he => string0_ok (p := .pointer none) (by rw [he]; simp [cellsAt, findE, subL]) hr.marks) (by simp only [push_cast, seval, reduceCtorEq, hD]) ?_
   simp only [push_cast, seval, reduceCtorEq]
theorem encode0_ok : CallsV Tryz.prog 72 [.agg itE.toArray] [] (Ret0 (.string ⟨#[192]⟩)) := by
 have ei : itE = [.bool true, .string .empty, .slice none 0 0] := rfl
 refine callsO gI0_ok Tryz.mix Tryz.pl72 Tryz.func72 rfl Tryz.ntmps72 Tryz.results72 rfl (by first | rfl | assumption) (Nat.le_of_ble_eq_true rfl) (by kernel_rfl) ?_
 simp only [push_cast, seval, reduceCtorEq]
 intro b1
 try simp only [push_cast, seval, reduceCtorEq, ei]
 refine (valuesI_ok).use trivial ?_
 rintro _ _ ⟨b, rfl, rfl⟩
 refine ⟨⟨trivial, trivial⟩, rfl, fun hfn => ?_⟩
 simp only [push_cast, seval, reduceCtorEq] at hfn
 try simp only [push_cast, seval, reduceCtorEq, hfn, ei]
 refine (join0_ok b).pure (by simp only [push_cast, seval, reduceCtorEq, hfn]) ?_
 simp only [push_cast, seval, reduceCtorEq, hfn, ei]
 have hc : catB ⟨#[192]⟩ .empty = some (.string ⟨#[192]⟩) := by
  unfold catB
  rw [if_neg (by decide)]
  rfl
 refine (head0_ok).pure trivial ?_
 simp only [push_cast, seval, reduceCtorEq, hfn, ei, hc]
theorem enc0_ok : CallsV Tryz.prog 52 [.agg itE.toArray] [] (Ret0 (.tuple #[.string ⟨#[192]⟩, .int .i64 0])) := by
 have il : itE.length = 3 := rfl
 have it3 : List.take 3 itE = itE := rfl
 have hs : (ByteArray.mk #[192]).size = 1 := rfl
 refine callsO gI0_ok Tryz.mix Tryz.pl52 Tryz.func52 rfl Tryz.ntmps52 Tryz.results52 rfl (by first | rfl | assumption) (Nat.le_of_ble_eq_true rfl) (by kernel_rfl) ?_
 simp only [push_cast, seval, reduceCtorEq]
 intro b1
 try simp only [push_cast, seval, reduceCtorEq, il, it3]
 refine (rright0_ok).pure trivial ?_
 simp only [push_cast, seval, reduceCtorEq, il, it3]
 refine (encode0_ok).pure trivial ?_
 simp only [push_cast, seval, reduceCtorEq, hs]
theorem sum_R {M : Hp} (hk : KonR M) (l : List UInt8) (hl : l.length ≤ 1048576) : ∀ M0, roM M0 → cellsAt M0 = cellsAt M → CallsV Tryz.prog 56 [.string ⟨l.toArray⟩] M0 (Ret0 (.tuple #[.string ⟨(keccK l).toArray⟩, .int .i64 0])) :=
 fun _ hr he => sum_ok (hk.congr he.symm) hr.marks l hl
theorem digest0_ok {M : Hp} (hk : KonR M) (hm : marksOf M = []) : CallsV Tryz.prog 27 [.slice none 0 0] M (Ret0 (.tuple #[.string ⟨(keccK [192]).toArray⟩, .int .i64 0])) := by
 have hr0 : rightS [] = true := rfl
 refine callsO gI0_ok Tryz.mix Tryz.pl27 Tryz.func27 rfl Tryz.ntmps27 Tryz.results27 rfl (by first | rfl | assumption) (Nat.le_of_ble_eq_true rfl) (by kernel_rfl) ?_
 simp only [push_cast, seval, reduceCtorEq]
 refine useP [] (v := .bool true) (fun M0 hr he => by have := sright_ok (s := []) (v := .slice none 0 0) (M := M0) (StR.nil _ 0) hr.marks (by decide); rw [hr0] at this; exact this) trivial ?_
 simp only [push_cast, seval, reduceCtorEq]
 refine (items_ok).use trivial ?_
 rintro _ _ ⟨b, c, rfl, rfl, hne⟩
 refine ⟨⟨trivial, trivial, trivial⟩, rfl, fun hfn => ?_⟩
 have hfn0 := hfn
 simp only [push_cast, seval, reduceCtorEq] at hfn
 try simp only [push_cast, seval, reduceCtorEq, hfn]
 refine (collect0_ok (items0_ok (b := b) (c := c) (k := .ro) (Hc := [⟨b, 0, .ro, [.slice none 0 0]⟩]) rfl (by simp [findE])) rfl (by simp only [push_cast, seval, reduceCtorEq])).pure (by simp only [push_cast, seval, reduceCtorEq, hfn, hne]) ?_
 simp only [push_cast, seval, reduceCtorEq, hfn]
 refine (list0_ok).pure trivial ?_
 simp only [push_cast, seval, reduceCtorEq, hfn]
 refine (enc0_ok).pure trivial ?_
 simp only [push_cast, seval, reduceCtorEq, hfn]
 refine useP [_, _] (sum_R hk [192] (by decide)) hfn0 ?_
 simp only [push_cast, seval, reduceCtorEq, hfn]
end Go.Proofs.YtpcjmmdgopihcaaGreatDoor
namespace Go.Proofs.YtpcjmmdgopihcaaGreatDoor
open Go Go.Ev Go.Proofs
def plEqS : Plans := fun i => if i = 6 then [] else Tryz.pl37 i
attribute [push_cast] plEqS
theorem eqSl_ok {M : Hp} {s t : List Sl} {v u : Value} (hv : LiR Sl.cells 8 M s v) (hu : LiR Sl.cells 8 M t u) (hm : marksOf M = []) (hn : s.length ≤ 2199023255551) : CallsV Tryz.prog 37 [v, u] M (Ret0 (.bool (decide (s = t)))) := by
 obtain ⟨p, k, rfl, hla⟩ := LiR.openC Sl.len (by decide) hv
 obtain ⟨q, n, rfl, hra⟩ := LiR.openC Sl.len (by decide) hu
 refine callsO gA1_ok Tryz.mix plEqS Tryz.func37 rfl Tryz.ntmps37 Tryz.results37 rfl (by first | rfl | assumption) (Nat.le_of_ble_eq_true rfl) (by kernel_rfl) ?_
 by_cases hl : s.length = t.length
 case neg =>
  have e : decide (s = t) = false := decide_eq_false fun h => hl (by rw [h])
  have e1 : (((s.length : Nat) : Int) != ((t.length : Nat) : Int)) = true := by rw [bne_iff_ne]; omega
  simp only [push_cast, seval, reduceCtorEq, e, e1]
 have e1 : (((s.length : Nat) : Int) != ((t.length : Nat) : Int)) = false := by rw [hl]; exact bne_self_eq_false _
 simp only [push_cast, seval, reduceCtorEq, e1]
 refine loopO gA1_ok (pl := plEqS) Tryz.mix (X := Nat)
  (fun i => ([(0, .slice p s.length k), (1, .slice q t.length n), (12, .int .i64 s.length), (13, .int .i64 i)], M))
  (fun i => i ≤ s.length ∧ s.take i = t.take i) (fun i => s.length - i) 0 ?_ ?_ (by kernel_rfl) ?_
 · exact ⟨Nat.zero_le _, rfl⟩
 · simp only [push_cast, seval, reduceCtorEq]
 · rintro i ⟨hi, ht⟩
   dsimp only at hi ht ⊢
   rcases Nat.lt_or_ge i s.length with hlt | hge
   · obtain ⟨x, hx⟩ : ∃ x, s[i]? = some x := ⟨s[i], List.getElem?_eq_getElem hlt⟩
     obtain ⟨y, hy⟩ : ∃ y, t[i]? = some y := ⟨t[i]'(by omega), List.getElem?_eq_getElem (by omega)⟩
     rcases hla with hl0 | ⟨b, f, d, kd, cs, rfl, he, hat⟩
     · rw [hl0] at hx; simp at hx
     rcases hra with hl0 | ⟨b', f', d', kd', cs', rfl, he', hat'⟩
     · rw [hl0] at hy; simp at hy
     obtain ⟨a1, a2⟩ := hat i x hx
     obtain ⟨b1, b2⟩ := hat' i y hy
     have i1 : (i : Int) < (s.length : Int) := by omega
     have i2 : (i : Int) < (t.length : Int) := by omega
     have i3 : i < t.length := by omega
     have vs : ∀ z : Sl, Value.agg z.cells.toArray = z.v := fun _ => rfl
     simp only [push_cast, seval, reduceCtorEq, i1, hlt]
     refine drawO gA1_ok Tryz.mix (Tryz.pl37 6) (by kernel_rfl) ?_
     by_cases hxy : x = y
     · simp only [push_cast, seval, reduceCtorEq, i1, i2, i3, hlt, he, he', a1, a2, b1, b2, vs, Sl.neq x y (by kernel_rfl) (by kernel_rfl) (by kernel_rfl), decide_eq_true hxy, wrap_i64' (show -9223372036854775808 ≤ (i : Int) + 1 ∧ (i : Int) + 1 ≤ 9223372036854775807 by omega)]
       refine ⟨i + 1, ⟨hlt, ?_⟩, by omega, rfl⟩
       rw [List.take_add_one, List.take_add_one, hx, hy, ht, hxy]
     · have e : decide (s = t) = false := decide_eq_false fun h => hxy (by rw [h, hy] at hx; exact (Option.some.inj hx).symm)
       simp only [push_cast, seval, reduceCtorEq, i1, i2, i3, hlt, he, he', a1, a2, b1, b2, vs, Sl.neq x y (by kernel_rfl) (by kernel_rfl) (by kernel_rfl), decide_eq_false hxy, e]
   · obtain rfl : i = s.length := by omega
     have e : decide (s = t) = true := decide_eq_true (by
      rw [List.take_length, hl, List.take_length] at ht; exact ht)
     simp only [push_cast, seval, reduceCtorEq, Nat.lt_irrefl, Int.lt_irrefl, e]
theorem eqSl_R {M : Hp} {s t : List Sl} {v u : Value} (hv : LiR Sl.cells 8 M s v) (hu : LiR Sl.cells 8 M t u) (hn : s.length ≤ 2199023255551) : ∀ M0, roM M0 → cellsAt M0 = cellsAt M → CallsV Tryz.prog 37 [v, u] M0 (Ret0 (.bool (decide (s = t)))) :=
 fun _ hr he => eqSl_ok (hv.congr he.symm) (hu.congr he.symm) hr.marks hn
theorem ssame1_ok {M : Hp} {x y : Ac} {sx sy : Value} (hx : LiR Sl.cells 8 M x.slots sx) (hy : LiR Sl.cells 8 M y.slots sy) (hm : marksOf M = []) (h1 : x.slots.length ≤ 2199023255551) : CallsV Tryz.prog 36 [.agg (x.cells sx).toArray, .agg (y.cells sy).toArray] M (Ret0 (.bool (decide (x = y)))) := by
 obtain ⟨p, k, rfl⟩ := hx.slice
 obtain ⟨q, n, rfl⟩ := hy.slice
 have va : ∀ w : W, Value.agg w.cells.toArray = w.v := fun _ => rfl
 refine callsO gA1_ok Tryz.mix (fun i => if i = 1 then [(0, 9)] else Tryz.pl36 i) Tryz.func36 rfl Tryz.ntmps36 Tryz.results36 rfl (by first | rfl | assumption) (Nat.le_of_ble_eq_true rfl) (by kernel_rfl) ?_
 simp only [push_cast, seval, reduceCtorEq]
 intro b2 hb2 b3 hb3
 refine regO gA1_ok ?_
 by_cases c1 : x.at_ = y.at_
 case neg =>
  have e : decide (x = y) = false := decide_eq_false fun h => c1 (by rw [h])
  simp only [push_cast, seval, reduceCtorEq, hb3, decide_eq_false c1, e]
 by_cases c2 : x.bal = y.bal
 case neg =>
  have e : decide (x = y) = false := decide_eq_false fun h => c2 (by rw [h])
  simp only [push_cast, seval, reduceCtorEq, hb3, va, decide_eq_true c1, decide_eq_false c2, e]
 by_cases c3 : x.nonce = y.nonce
 case neg =>
  have e : decide (x = y) = false := decide_eq_false fun h => c3 (by rw [h])
  have e3 : (x.nonce == y.nonce) = false := beq_eq_false_iff_ne.2 c3
  simp only [push_cast, seval, reduceCtorEq, hb3, va, decide_eq_true c1, decide_eq_true c2, e3, e]
 have e3 : (x.nonce == y.nonce) = true := by rw [c3]; exact beq_self_eq_true _
 by_cases c4 : x.code = y.code
 case neg =>
  have e : decide (x = y) = false := decide_eq_false fun h => c4 (by rw [h])
  have e4 : (x.code.toList == y.code.toList) = false := by rw [code_eq, decide_eq_false c4]
  simp only [push_cast, seval, reduceCtorEq, hb3, va, decide_eq_true c1, decide_eq_true c2, e3, e4, e]
 have e4 : (x.code.toList == y.code.toList) = true := by rw [code_eq, decide_eq_true c4]
 have e : decide (x = y) = decide (x.slots = y.slots) := by
  rw [decide_eq_decide]
  exact ⟨fun h => by rw [h], fun h => Ac.ext c1 c2 c3 c4 h⟩
 rw [e]
 simp only [push_cast, seval, reduceCtorEq, hb3, va, decide_eq_true c1, decide_eq_true c2, e3, e4]
 refine useP [_, _] (eqSl_R hx hy h1) ⟨hb3.2.2, hb2, trivial⟩ ?_
 simp only [push_cast, seval, reduceCtorEq]
def plEqF : Plans := fun i => Tryz.pl35 i
attribute [push_cast] plEqF
theorem eqF_ok {M : Hp} {s t : List Ac} {v u : Value} (hv : StR s v M) (hu : StR t u M) (hm : marksOf M = []) (hn : s.length ≤ 2199023255551) (hn2 : t.length ≤ 2199023255551) (h1 : ∀ x ∈ s, x.slots.length ≤ 2199023255551) : CallsV Tryz.prog 35 [v, u, .func (.func 36) #[] #[]] M (Ret0 (.bool (decide (s = t)))) := by
 obtain ⟨L, rfl, hL, hLs⟩ := hv
 obtain ⟨R, rfl, hR, hRs⟩ := hu
 have hlen : (L.map (·.1)).length = L.length := List.length_map _
 have hlen2 : (R.map (·.1)).length = R.length := List.length_map _
 rw [hlen] at hn
 rw [hlen2] at hn2
 obtain ⟨p, k, rfl, hla⟩ := hL.openA
 obtain ⟨q, n, rfl, hra⟩ := hR.openA
 refine callsO gA1_ok Tryz.mix plEqF Tryz.func35 rfl Tryz.ntmps35 Tryz.results35 rfl (by first | rfl | assumption) (Nat.le_of_ble_eq_true rfl) (by kernel_rfl) ?_
 by_cases hl : L.length = R.length
 case neg =>
  have e : decide (L.map (·.1) = R.map (·.1)) = false := decide_eq_false fun h => hl (by rw [← hlen, h, hlen2])
  have e1 : (((L.length : Nat) : Int) != ((R.length : Nat) : Int)) = true := by rw [bne_iff_ne]; omega
  simp only [push_cast, seval, reduceCtorEq, e, e1]
 have e1 : (((L.length : Nat) : Int) != ((R.length : Nat) : Int)) = false := by rw [hl]; exact bne_self_eq_false _
 simp only [push_cast, seval, reduceCtorEq, e1]
 refine loopO gA1_ok (pl := plEqF) Tryz.mix (X := Nat)
  (fun i => ([(0, .slice p L.length k), (1, .slice q R.length n), (15, .slice p L.length k), (16, .int .i64 L.length), (2, .func (.func 36) #[] #[]), (17, .int .i64 i)], M))
  (fun i => i ≤ L.length ∧ (L.take i).map (·.1) = (R.take i).map (·.1)) (fun i => L.length - i) 0 ?_ ?_ (by kernel_rfl) ?_
 · exact ⟨Nat.zero_le _, rfl⟩
 · simp only [push_cast, seval, reduceCtorEq]
 · rintro i ⟨hi, ht⟩
   dsimp only at hi ht ⊢
   rcases Nat.lt_or_ge i L.length with hlt | hge
   · obtain ⟨x, hx⟩ : ∃ x, L[i]? = some x := ⟨L[i], List.getElem?_eq_getElem hlt⟩
     obtain ⟨y, hy⟩ : ∃ y, R[i]? = some y := ⟨R[i]'(by omega), List.getElem?_eq_getElem (by omega)⟩
     rcases hla with rfl | ⟨b, f, d, kd, cs, rfl, he, hat⟩
     · simp at hx
     rcases hra with rfl | ⟨b', f', d', kd', cs', rfl, he', hat'⟩
     · simp at hy
     obtain ⟨-, a1, a2⟩ := hat i x hx
     have a0 := Ac.all1 x.1 x.2 (hLs x (List.mem_of_getElem? hx)).one
     obtain ⟨b0, b1, b2⟩ := hat' i y hy
     have b0 := Ac.all1 y.1 y.2 (hRs y (List.mem_of_getElem? hy)).one
     have i1 : (i : Int) < (L.length : Int) := by omega
     have i2 : (i : Int) < (R.length : Int) := by omega
     have i3 : i < R.length := by omega
     simp only [push_cast, seval, reduceCtorEq, i1, i2, i3, hlt, he, a1, a2, show (acC x).all oneC = true from a0]
     intro b8 hb8
     have d1 := (fresh_findS hb8 he').2
     try simp only [push_cast, seval, reduceCtorEq, i1, i2, i3, hlt, he, he', a1, a2, b1, b2, d1, hb8, show (acC x).all oneC = true from a0, show (acC y).all oneC = true from b0]
     intro b9 hb9
     try simp only [push_cast, seval, reduceCtorEq, hb8, hb9, show (acC x).all oneC = true from a0, show (acC y).all oneC = true from b0]
     have hxm := List.mem_of_getElem? hx
     have hym := List.mem_of_getElem? hy
     refine useP [_, _] (fun M1 hr1 he1 => ssame1_ok ((hLs x hxm).congr he1.symm) ((hRs y hym).congr he1.symm) hr1.marks (h1 _ (List.mem_map_of_mem hxm))) ⟨hb9.2.2, hb8, trivial⟩ ?_
     by_cases hxy : x.1 = y.1
     · simp only [push_cast, seval, reduceCtorEq, decide_eq_true hxy, wrap_i64' (show -9223372036854775808 ≤ (i : Int) + 1 ∧ (i : Int) + 1 ≤ 9223372036854775807 by omega)]
       refine ⟨i + 1, ⟨hlt, ?_⟩, by omega, rfl, ?_⟩
       · rw [List.take_add_one, List.take_add_one, hx, hy, List.map_append, List.map_append, ht]
         simp [hxy]
       · rw [subH_skip (e := ⟨b9, 0, .cel 31, acC y⟩) (L := ⟨b8, 0, .cel 31, acC x⟩ :: M) (H := M) hb9.2.2, subH_skip (e := ⟨b8, 0, .cel 31, acC x⟩) (L := M) (H := M) hb8]; exact subH_self _
     · have e : decide (L.map (·.1) = R.map (·.1)) = false := decide_eq_false fun h => hxy (by
        have h1 : (L.map (·.1))[i]? = some x.1 := by rw [List.getElem?_map, hx]; rfl
        have h2 : (R.map (·.1))[i]? = some y.1 := by rw [List.getElem?_map, hy]; rfl
        rw [h, h2] at h1
        exact (Option.some.inj h1).symm)
       simp only [push_cast, seval, reduceCtorEq, decide_eq_false hxy, e]
   · obtain rfl : i = L.length := by omega
     have e : decide (L.map (·.1) = R.map (·.1)) = true := decide_eq_true (by
      rw [List.take_length, hl, List.take_length] at ht; exact ht)
     simp only [push_cast, seval, reduceCtorEq, Nat.lt_irrefl, Int.lt_irrefl, e]
theorem ssame_R {M : Hp} {s t : List Ac} {v u : Value} (hv : StR s v M) (hu : StR t u M) (hn : s.length ≤ 2199023255551) (hn2 : t.length ≤ 2199023255551) (h1 : ∀ x ∈ s, x.slots.length ≤ 2199023255551) : ∀ M0, roM M0 → cellsAt M0 = cellsAt M → CallsV Tryz.prog 14 [v, u] M0 (Ret0 (.bool (decide (s = t)))) := by
 intro M0 hr he
 have hm := hr.marks
 replace hv := StR.rd _ _ _ _ he.symm hv
 replace hu := StR.rd _ _ _ _ he.symm hu
 refine callsO gA1_ok Tryz.mix Tryz.pl14 Tryz.func14 rfl Tryz.ntmps14 Tryz.results14 rfl (by first | rfl | assumption) (Nat.le_of_ble_eq_true rfl) (by kernel_rfl) ?_
 simp only [push_cast, seval, reduceCtorEq]
 refine useP [] (fun M1 hr1 he1 => eqF_ok (StR.rd _ _ _ _ he1.symm hv) (StR.rd _ _ _ _ he1.symm hu) hr1.marks hn hn2 h1) trivial ?_
 simp only [push_cast, seval, reduceCtorEq]
end Go.Proofs.YtpcjmmdgopihcaaGreatDoor
namespace Go.Ev
structure R5 where
 a : Int
 b : Int
 c : Int
 d : Int
 e : Int
def R5.cells (r : R5) : List Value := [.int .i64 r.a, .int .i64 r.b, .int .i64 r.c, .int .i64 r.d, .int .i64 r.e]
def R5.v (r : R5) : Value := .agg #[.int .i64 r.a, .int .i64 r.b, .int .i64 r.c, .int .i64 r.d, .int .i64 r.e]
def R5.In (r : R5) : Prop := i64In r.a ∧ i64In r.b ∧ i64In r.c ∧ i64In r.d ∧ i64In r.e
def R5.ch (r : R5) : R4 := ⟨r.b, r.c, r.d, r.e⟩
end Go.Ev
namespace Go.Proofs.YtpcjmmdgopihcaaGreatDoor
open Go Go.Ev Go.Proofs
end Go.Proofs.YtpcjmmdgopihcaaGreatDoor
namespace Go.Proofs.YtpcjmmdgopihcaaGreatDoor
open Go Go.Ev Go.Proofs
end Go.Proofs.YtpcjmmdgopihcaaGreatDoor
namespace Go.Ev
end Go.Ev
namespace Go.Ev
theorem nodup_subN {α : Type} [DecidableEq α] : ∀ {l m : List α}, l.Nodup → (∀ x ∈ l, x ∈ m) → l.length ≤ m.length
 | [], _, _, _ => Nat.zero_le _
 | x :: r, m, h, hs => by
   obtain ⟨h1, h2⟩ := List.nodup_cons.1 h
   have hx := hs x (List.mem_cons_self ..)
   have := nodup_subN (l := r) (m := m.erase x) h2 fun y hy => (List.mem_erase_of_ne fun e => h1 (by rw [← e]; exact hy)).2 (hs y (List.mem_cons_of_mem _ hy))
   rw [List.length_erase_of_mem hx] at this
   have hpos := List.length_pos_of_mem hx
   rw [List.length_cons]; omega
theorem few_len {α : Type} {f : α → Nat} {l : List α} (hs : l.Pairwise fun x y => f x < f y) {m : List Nat} (hm : ∀ x ∈ l, f x ∈ m) : l.length ≤ m.length := by
 have h : (l.map f).Nodup := by
  rw [List.nodup_iff_pairwise_ne, List.pairwise_map]
  exact hs.imp fun h => Nat.ne_of_lt h
 have := nodup_subN h (m := m) fun x hx => by
  obtain ⟨y, hy, rfl⟩ := List.mem_map.1 hx
  exact hm y hy
 rwa [List.length_map] at this
def adK (k : Nat) : Ad := ⟨addrL k, addrL_len k⟩
def kyK (k : Nat) : W := W.ofInt (k : Int)
def InA (a : Ad) : Prop := ∃ k < 9, a = adK k
def InK (w : W) : Prop := ∃ k < 5, w = kyK k
def FewC (c : Ch) : Prop := InA c.at_ ∧ (c.kind = 4 → InK c.key)
structure FewS (s : List Ac) : Prop where
 ri : RiS s
 ad : ∀ x ∈ s, InA x.at_
 ky : ∀ x ∈ s, ∀ y ∈ x.slots, InK y.key
theorem FewS.len {s : List Ac} (h : FewS s) : s.length ≤ 9 := by
 have := few_len (m := (List.range 9).map fun k => (adK k).num) h.ri.srt fun x hx => by
  obtain ⟨k, hk, e⟩ := h.ad x hx
  exact List.mem_map.2 ⟨k, List.mem_range.2 hk, by rw [e]⟩
 simpa using this
theorem slots_len {l : List Sl} (h : Srt l) (hk : ∀ y ∈ l, InK y.key) : l.length ≤ 5 := by
 have := few_len (m := (List.range 5).map fun k => (kyK k).num) h fun x hx => by
  obtain ⟨k, hk, e⟩ := hk x hx
  exact List.mem_map.2 ⟨k, List.mem_range.2 hk, by rw [e]⟩
 simpa using this
theorem FewS.nil : FewS [] := ⟨RiS.nil, fun x hx => (by cases hx), fun x hx => (by cases hx)⟩
theorem FewS.find {s : List Ac} (h : FewS s) (a : Ad) : ∀ y ∈ (findS s a).slots, InK y.key := by
 rcases findS_cases s a with ⟨e, -⟩ | e
 · rw [e]; intro y hy; cases hy
 · exact h.ky _ e
theorem merge_in {l : List Sl} (h : Ri l) {k v : W} {P : W → Prop} (hl : ∀ y ∈ l, P y.key) (hk : P k) : ∀ y ∈ mergeL l [⟨k, v⟩], P y.key := by
 intro y hy
 have hs := mergeL_srt h.srt (srt_one (⟨k, v⟩ : Sl))
 have h1 := lk_of_mem hs hy
 rw [mergeL_lk h.srt (srt_one _) h.noz, lk_cons, lk_nil] at h1
 by_cases e : k = y.key
 · rw [← e]; exact hk
 · rw [if_neg e] at h1
   obtain ⟨x, h2, h3, -⟩ := lk_mem h1
   rw [← h3]; exact hl x h2
theorem chA_few {x : Ac} {c : Ch} (hx : Ri x.slots) (hk : ∀ y ∈ x.slots, InK y.key) (hc : FewC c) (h0 : (chA x c).2.2 = 0) : (∀ y ∈ (chA x c).1.slots, InK y.key) ∧ FewC (chA x c).2.1 := by
 unfold chA at h0 ⊢
 by_cases h1 : c.kind = 1
 · simp only [if_pos h1]; exact ⟨hk, hc.1, fun h => by simp [h1] at h⟩
 by_cases h2 : c.kind = 2
 · simp only [if_neg h1, if_pos h2]; exact ⟨hk, hc.1, fun h => by simp [h2] at h⟩
 by_cases h3 : c.kind = 3
 · simp only [if_neg h1, if_neg h2, if_pos h3]; exact ⟨hk, hc.1, fun h => by simp [h3] at h⟩
 by_cases h4 : c.kind = 4
 · simp only [if_neg h1, if_neg h2, if_neg h3, if_pos h4] at h0 ⊢
   refine ⟨?_, hc.1, fun _ => hc.2 h4⟩
   rw [mergeR_val hx] at h0 ⊢
   rw [(limR_ok h0).1]
   exact merge_in hx hk (hc.2 h4)
 · simp only [if_neg h1, if_neg h2, if_neg h3, if_neg h4] at h0; cases h0
theorem FewS.do_ {s : List Ac} (h : FewS s) {c : Ch} (hc : FewC c) (hd : Did s c) : FewS (doS s c).1 ∧ FewC (doS s c).2.1 := by
 have hr := hd.right
 rw [hd.val] at hr ⊢
 have hf := chA_few (mayA_slots (h.ri.findMay c.at_)) (h.find c.at_) hc hd.ch
 have ha := (chA_at (findS s c.at_) c).1
 rw [findS_at] at ha
 refine ⟨⟨hr, fun x hx => ?_, fun x hx => ?_⟩, hf.2⟩
 · rcases putS_mem hx with ⟨rfl, -⟩ | ⟨hx, -⟩
   · rw [ha]; exact hc.1
   · exact h.ad x hx
 · rcases putS_mem hx with ⟨rfl, -⟩ | ⟨hx, -⟩
   · exact hf.1
   · exact h.ky x hx
theorem chR_few (r : R4) : FewC (chR r) := by
 have ha : InA (addrA r.b) := ⟨pickN r.b 9, by have := pickN_lt r.b (show (0 : Int) < 9 by decide); omega, addrA_eq r.b⟩
 unfold chR
 split
 · exact ⟨ha, fun h => by simp at h⟩
 split
 · exact ⟨ha, fun h => by simp at h⟩
 split
 · exact ⟨ha, fun h => by simp at h⟩
 · exact ⟨ha, fun _ => ⟨pickN r.c 5, by have := pickN_lt r.c (show (0 : Int) < 5 by decide); omega, rfl⟩⟩
theorem codeN_size (n : Nat) : (codeN n).size ≤ 4 := by
 unfold codeN
 repeat' split
 all_goals decide
theorem mayA_iff {x : Ac} : mayA x = true ↔ 0 ≤ x.nonce ∧ x.nonce ≤ 9007199254740992 ∧ x.code.size ≤ 24576 ∧ Ri x.slots := by
 unfold mayA
 simp only [Bool.and_eq_true, decide_eq_true_eq, rightB_iff]
theorem chR_did {s : List Ac} (h : FewS s) (r : R4) : Did s (chR r) := by
 have hc := chR_few r
 have hm := mayA_iff.1 (h.ri.findMay (chR r).at_)
 have hk := h.find (chR r).at_
 obtain ⟨x, hx⟩ : ∃ x, x = findS s (chR r).at_ := ⟨_, rfl⟩
 rw [← hx] at hm hk
 obtain ⟨m1, m2, m3, m4⟩ := hm
 have hl5 := slots_len m4.srt hk
 have key : (chA x (chR r)).2.2 = 0 ∧ mayA (chA x (chR r)).1 = true := by
  rw [mayA_iff]
  unfold chR
  have p4 := pickN_lt r.c (show (0 : Int) < 4 by decide)
  split
  · unfold chA
    simp only [if_true]
    exact ⟨trivial, m1, m2, m3, m4⟩
  split
  · unfold chA
    dsimp only
    rw [if_neg (by decide : ¬ (2 : Int) = 1), if_pos rfl]
    dsimp only
    exact ⟨rfl, by omega, by omega, m3, m4⟩
  split
  · unfold chA
    dsimp only
    rw [if_neg (by decide : ¬ (3 : Int) = 1), if_neg (by decide : ¬ (3 : Int) = 2), if_pos rfl]
    dsimp only
    exact ⟨rfl, m1, m2, Nat.le_trans (codeN_size _) (by decide), m4⟩
  · unfold chA
    dsimp only
    rw [if_neg (by decide : ¬ (4 : Int) = 1), if_neg (by decide : ¬ (4 : Int) = 2), if_neg (by decide : ¬ (4 : Int) = 3), if_pos rfl]
    dsimp only
    rw [mergeR_val m4]
    have hs := mergeL_srt m4.srt (srt_one (⟨W.ofInt (pickN r.c 5 : Nat), W.ofInt (pickN r.d 3 : Nat)⟩ : Sl))
    have hl := slots_len hs (merge_in m4 hk ⟨pickN r.c 5, by have := pickN_lt r.c (show (0 : Int) < 5 by decide); omega, rfl⟩)
    have e : limR (mergeL x.slots [⟨W.ofInt (pickN r.c 5 : Nat), W.ofInt (pickN r.d 3 : Nat)⟩]) = (mergeL x.slots [⟨W.ofInt (pickN r.c 5 : Nat), W.ofInt (pickN r.d 3 : Nat)⟩], 0) := by
     unfold limR; rw [if_neg (by omega)]
    rw [e]
    exact ⟨rfl, m1, m2, m3, hs, mergeL_noz m4.srt (srt_one _) m4.noz, by dsimp only; omega⟩
 rw [hx] at key
 refine ⟨h.ri, key.1, key.2, ?_⟩
 unfold putS
 have l1 := List.length_filter_le (fun y : Ac => decide (y.at_.num < (chA (findS s (chR r).at_) (chR r)).1.at_.num)) s
 have l2 := List.length_filter_le (fun y : Ac => decide ((chA (findS s (chR r).at_) (chR r)).1.at_.num < y.at_.num)) s
 have l9 := h.len
 rw [List.length_append, List.length_append]
 split <;> simp only [List.length_nil, List.length_singleton] <;> omega
theorem stepS_few {s : List Ac} (h : FewS s) (r : R4) : FewS (stepS s r) := by
 unfold stepS
 rw [if_pos (doS_iff.2 (chR_did h r))]
 exact (h.do_ (chR_few r) (chR_did h r)).1
theorem foldS_few : ∀ (l : List R4) {s : List Ac}, FewS s → FewS (l.foldl stepS s)
 | [], _, h => h
 | r :: l, _, h => foldS_few l (stepS_few h r)
theorem stateR_few (s : List R4) : FewS (stateR s) := foldS_few _ FewS.nil
end Go.Ev
namespace Go.Ev
def adE : Ad := ⟨5 :: List.replicate 19 0, by decide⟩
def e1w : W := W.ofInt 1
def e2w : W := W.ofInt 2
def e5w : W := W.ofInt 5
def xE5 : Ac := ⟨adE, e5w, 0, .empty, []⟩
def xE2 : Ac := ⟨adE, e5w, 0, .empty, [⟨e1w, e2w⟩]⟩
def cE5 : Ch := ⟨1, adE, W.zero, e5w, 0, .empty⟩
def uE5 : Ch := ⟨1, adE, W.zero, W.zero, 0, .empty⟩
def cE2 : Ch := ⟨4, adE, e1w, e2w, 0, .empty⟩
def uE2 : Ch := ⟨4, adE, e1w, W.zero, 0, .empty⟩
theorem e2w_ne : e2w ≠ W.zero := by decide
theorem mayE0 {a : Ad} {b : W} : mayA ⟨a, b, 0, .empty, []⟩ = true := by
 unfold mayA
 rw [rightB_iff.2 ⟨List.Pairwise.nil, fun x h => (by cases h), by simp⟩]
 simp
theorem rightE1 : rightB [⟨e1w, e2w⟩] = true := rightB_iff.2 ⟨srt_one _, fun x hx => by rw [List.mem_singleton.1 hx]; exact e2w_ne, by simp⟩
theorem mayE2 : mayA xE2 = true := by
 unfold mayA
 show (_ && rightB [⟨e1w, e2w⟩]) = true
 rw [rightE1]
 decide
theorem xE5_ne : emptyA xE5 = false := by decide
theorem xE2_ne : emptyA xE2 = false := by decide
theorem doE5 : doS [] cE5 = ([xE5], uE5, 0) := by
 have hc : chA (findS [] cE5.at_) cE5 = (xE5, uE5, 0) := by
  show chA (findS [] adE) cE5 = _
  rw [findS_none fun x hx => by cases hx]
  unfold chA
  rw [if_pos (show cE5.kind = 1 from rfl)]
  rfl
 have hp : putS [] xE5 = [xE5] := by
  unfold putS
  rw [xE5_ne]
  rfl
 have hd : Did [] cE5 := ⟨RiS.nil, by rw [hc], by rw [hc]; exact mayE0, by rw [hc, hp]; decide⟩
 rw [hd.val, hc, hp]
theorem riE5 : RiS [xE5] := by
 have h := (doS_iff.1 (show (doS [] cE5).2.2 = 0 by rw [doE5])).right
 rw [doE5] at h
 exact h
theorem findE5 : findS [xE5] adE = xE5 := findS_some riE5.srt (x := xE5) (by simp)
theorem undoE5 : ∃ w, doS [xE5] uE5 = ([], w, 0) := by
 have h := (doS_iff.1 (show (doS [] cE5).2.2 = 0 by rw [doE5])).back
 rw [doE5] at h
 exact h
theorem doE2 : doS [xE5] cE2 = ([xE2], uE2, 0) := by
 have hm : mergeL [] [⟨e1w, e2w⟩] = [⟨e1w, e2w⟩] := by
  unfold mergeL
  rw [joinS, joinS]
  simp [pickM, e2w_ne]
 have hc : chA (findS [xE5] cE2.at_) cE2 = (xE2, uE2, 0) := by
  show chA (findS [xE5] adE) cE2 = _
  rw [findE5]
  unfold chA
  rw [if_neg (show ¬ cE2.kind = 1 by decide), if_neg (show ¬ cE2.kind = 2 by decide), if_neg (show ¬ cE2.kind = 3 by decide), if_pos (show cE2.kind = 4 from rfl)]
  show ((⟨adE, e5w, 0, .empty, (mergeR [] [⟨e1w, e2w⟩]).1⟩ : Ac), (⟨4, adE, e1w, getW [] e1w, 0, .empty⟩ : Ch), (mergeR [] [⟨e1w, e2w⟩]).2) = _
  rw [mergeR_val ⟨List.Pairwise.nil, fun x h => (by cases h), by simp⟩, hm]
  rfl
 have hp : putS [xE5] xE2 = [xE2] := by
  unfold putS
  rw [xE2_ne]
  have h1 : decide (xE5.at_.num < xE2.at_.num) = false := decide_eq_false (Nat.lt_irrefl _)
  have h2 : decide (xE2.at_.num < xE5.at_.num) = false := decide_eq_false (Nat.lt_irrefl _)
  simp [h1, h2]
 have hd : Did [xE5] cE2 := ⟨riE5, by rw [hc], by rw [hc]; exact mayE2, by rw [hc, hp]; decide⟩
 rw [hd.val, hc, hp]
theorem riE2 : RiS [xE2] := by
 have h := (doS_iff.1 (show (doS [xE5] cE2).2.2 = 0 by rw [doE2])).right
 rw [doE2] at h
 exact h
theorem findE2 : findS [xE2] adE = xE2 := findS_some riE2.srt (x := xE2) (by simp)
def cEo : Ch := ⟨5, Ad.zero, W.zero, W.zero, 0, .empty⟩
theorem doEo : doS [xE5] cEo = ([xE5], Ch.zero, 1) := by
 have hc : (chA (findS [xE5] cEo.at_) cEo).2.2 = 1 := by
  unfold chA
  rw [if_neg (show ¬ cEo.kind = 1 by decide), if_neg (show ¬ cEo.kind = 2 by decide), if_neg (show ¬ cEo.kind = 3 by decide), if_neg (show ¬ cEo.kind = 4 by decide)]
 unfold doS
 rw [if_neg (by rw [rightS_iff.2 riE5]; decide), if_pos (by rw [hc]; decide), hc]
theorem setE0 : setS [emptyAt Ad.zero] xE2 = ([], 1) := by
 unfold setS
 have : rightS [emptyAt Ad.zero] = false := by
  cases h : rightS [emptyAt Ad.zero]
  · rfl
  · have := (rightS_iff.1 h).ne (emptyAt Ad.zero) (by simp)
    exact absurd this (by decide)
 rw [this]
 rfl
end Go.Ev
