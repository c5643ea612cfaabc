/- Texts of this claim, merged by program: EvU EvV EvW Oc Od Rh Sa Sb We Sf Sg Sc Na. -/
import Derived.Test.YtolmipnaheifcaaGreatDoorZfAf
import Derived.Lib.Overlaps
import Derived.Test.YtolmipnaheifcaaGreatDoorZfAe
import Derived.LaidEql
import Derived.Stop.Asserts
import Derived.RowKitTokens
import Derived.Test.YtolmipnaheifcaaGreatDoorRows
import Derived.MakeChecks
import Derived.LaidHandle
import Derived.Stop.Joined
import Derived.Lay
import Derived.Test.YtolmipnaheifcaaGreatDoorZfAc
import Derived.Test.YtolmipnaheifcaaGreatDoorZfAd
import Derived.Laws.Strings
import Derived.Laws.Strings2
import Derived.Lib.Repeat
set_option linter.unusedSimpArgs false
set_option linter.unusedVariables false
namespace Go.Ev
open Go.RowKit
def OutG (e s : Nat) (cs : List Value) (n : Nat) (v : Value) (N : Hp) : Prop :=
  (n = 0 ∧ cs = [] ∧ v = .slice none 0 0 ∧ N = []) ∨ ∃ b c, v = .slice (some ⟨b, 0, none⟩) n c ∧ n ≤ c ∧ cs.length = n * s ∧ N = [⟨b, 0, .vec e s c, cs⟩]
theorem OutG.wr {e s n : Nat} {cs : List Value} {v : Value} {N : Hp} (h : OutG e s cs n v N) : allWr N ∧ marksOf N = [] := by
  rcases h with ⟨_, _, _, rfl⟩ | ⟨b, c, _, _, _, rfl⟩
  · exact ⟨trivial, rfl⟩
  · exact ⟨⟨trivial, trivial⟩, rfl⟩
theorem OutG.liR {α : Type} {c : α → List Value} {s e n : Nat} {cs : List Value} {v : Value} {N : Hp} {l : List α} (ho : OutG e s cs n v N) (hn : n = l.length) (hc : cs = l.flatMap c) (X : Hp) : LiR c s (N ++ X) l v := by
  subst hn hc
  rcases ho with ⟨h1, h2, rfl, rfl⟩ | ⟨b, k, rfl, h1, h2, rfl⟩
  · rw [List.length_eq_zero_iff.1 h1]; exact LiR.nil _ _
  · refine ⟨_, k, rfl, .inr ⟨b, 0, rfl, ?_⟩⟩
    unfold cellsAt
    simp only [List.cons_append, findE, if_true, Nat.sub_zero, subL, List.drop_zero]
    rw [if_pos (Nat.zero_le _), if_pos (by omega), List.take_of_length_le (by omega)]
theorem OutG.slice {e s n : Nat} {cs : List Value} {v : Value} {N : Hp} (h : OutG e s cs n v N) : ∃ p c, v = .slice p n c := by
  rcases h with ⟨rfl, _, rfl, _⟩ | ⟨b, c, rfl, _, _, _⟩
  · exact ⟨_, _, rfl⟩
  · exact ⟨_, _, rfl⟩
theorem LiR.openC {α : Type} {c : α → List Value} {s : Nat} {l : List α} {H : Hp} {v : Value} (hs : ∀ x, (c x).length = s) (h0 : 0 < s) (h : LiR c s H l v) : ∃ p k, v = .slice p l.length k ∧ (l = [] ∨ ∃ b f d kd cs, p = some ⟨b, f + d, none⟩ ∧ findE H b = some ⟨b, f, kd, cs⟩ ∧
    ∀ i x, l[i]? = some x → d + i * s + s ≤ cs.length ∧ List.take s (List.drop (d + i * s) cs) = c x) := by
  obtain ⟨p, k, rfl, h0 | ⟨b, f, d, kd, cs, rfl, he, hat, -, -⟩⟩ := h.open hs h0
  · exact ⟨p, k, rfl, .inl h0⟩
  · refine ⟨_, k, rfl, .inr ⟨b, f, d, kd, cs, rfl, he, fun i x hx => ?_⟩⟩
    have := hat i x hx 0 s (by omega)
    rw [List.drop_zero, List.take_of_length_le (Nat.le_of_eq (hs x)), Nat.add_zero] at this
    exact this
theorem Gr.find {M M' : Hp} (h : Gr M M') {b : Nat} {e : Ent} (hf : findE M b = some e) : findE M' b = some e := by
  obtain ⟨_, N, rfl, _, _⟩ := h
  rw [findE_app, hf]
theorem findE_A {b : Nat} {X : Hp} : ∀ {A : Hp}, (∀ a ∈ A, ¬ b = a.blk) → findE (A ++ X) b = findE X b
  | [], _ => rfl
  | a :: r, h => by
    rw [List.cons_append, findE, if_neg (h a (by simp))]
    exact findE_A fun x hx => h x (by simp [hx])
theorem remE_A {b : Nat} {X : Hp} : ∀ {A : Hp}, (∀ a ∈ A, ¬ b = a.blk) → remE (A ++ X) b = A ++ remE X b
  | [], _ => rfl
  | a :: r, h => by
    rw [List.cons_append, remE, if_neg (h a (by simp)), remE_A fun x hx => h x (by simp [hx])]; rfl
theorem freshN_appL {N1 N2 H : Hp} : freshN (N1 ++ N2) H ↔ freshN N1 H ∧ freshN N2 H := by
  rw [freshN_iff, freshN_iff, freshN_iff]
  exact ⟨fun h => ⟨fun e he => h e (List.mem_append_left _ he), fun e he => h e (List.mem_append_right _ he)⟩, fun ⟨h1, h2⟩ e he => (List.mem_append.1 he).elim (h1 e) (h2 e)⟩
end Go.Ev
set_option linter.unusedSimpArgs false
set_option linter.unusedVariables false
namespace Go.Ev
open Go.RowKit
theorem CallsV.useMs {P : Program} {g : FuncId} {args : List Value} {Hw Hf Hr : Hp} {K K' : Value → Hp → Prop} (hc : CallsV P g args (Hw ++ Hf) K) (hw : ∀ e ∈ Hw, e.kind.solid = true) (hd : derE Hr Hf)
    (hk : ∀ v N, K v N → allWr N ∧ marksOf N = [] ∧ (freshN N Hr → K' v (N ++ Hr))) : CallsV P g args (Hw ++ Hr) K' := by
  refine ⟨hc.1, fun w0 mu w hs => ?_⟩
  have hmw : ∀ e ∈ Hw, e.wr := fun e he => by have := hw e he; unfold Ent.wr; cases hk : e.kind <;> simp [Kind.solid, hk] at this ⊢
  have hmo : ∀ e ∈ Hw, ∀ o, e.kind ≠ .obj o := by intro e he o ho; have := hw e he; rw [ho] at this; simp [Kind.solid] at this
  have hs1 : Sat w0 mu Hr w := hs.weak (List.sublist_append_right Hw Hr)
  have hs2 : Sat w0 mu Hw w := hs.weak (List.sublist_append_left Hw Hr)
  have hap := List.pairwise_append.1 hs.apart
  have hder := derE_mem hd
  have hro : ∀ e ∈ Hf, ¬ e.wr := fun e he hw => by unfold Ent.wr at hw; rw [(hder e he).1] at hw; exact hw
  have hblk : ∀ e ∈ Hf, (∀ m ∈ Hw, m.blk ≠ e.blk) ∧ e.blk < w.heap.size := fun e he => by
    have h2 := (hder e he).2
    unfold cellsAt at h2
    split at h2
    · rename_i e' he'
      obtain ⟨hm', hb⟩ := findE_mem he'
      rw [← hb]; exact ⟨fun m hm => hap.2.2 m hm e' hm' (.inl (hmw m hm)), Ent.lt (hs1.ents e' hm')⟩
    · cases h2
  have mks : ∀ L : Hp, (∀ e ∈ L, ∀ o, e.kind ≠ .obj o) → marksOf L = [] := by
    intro L
    induction L with
    | nil => intro _; rfl
    | cons x r ih =>
      intro h
      simp only [marksOf]
      split
      · rename_i hk; exact absurd hk (h x (by simp) _)
      · exact ih fun e he => h e (by simp [he])
  have hmf : marksOf (Hw ++ Hf) = [] := by
    rw [marks_append, mks Hw hmo, mks Hf fun e he o ho => by rw [(hder e he).1] at ho; cases ho]; rfl
  have hsf : Sat w (fun b => ∃ m ∈ Hw, m.blk = b) (Hw ++ Hf) w := by
    refine ⟨rfl, rfl, rfl, Nat.le_refl _, fun _ _ _ => rfl, ?_, ?_, List.pairwise_append.2 ⟨hap.1, ?_, fun m hm e he _ => (hblk e he).1 m hm⟩⟩
    · intro e he
      rcases List.mem_append.1 he with he | he
      · exact hs2.ents e he
      · obtain ⟨h1, h2⟩ := hder e he
        unfold Ent.holds
        rw [h1]
        exact ⟨(hblk e he).2, (hs1.cellsAt h2).2⟩
    · intro e he hw
      rcases List.mem_append.1 he with he | he
      · exact .inl ⟨e, he, rfl⟩
      · exact absurd hw (hro e he)
    · exact List.pairwise_iff_forall_sublist.2 fun {a b} hab => by
        intro hw
        rcases hw with hw | hw
        · exact absurd hw (hro a (hab.subset (by simp)))
        · exact absurd hw (hro b (hab.subset (by simp)))
  refine (hc.2 w _ w hsf).mono ?_
  rintro e w' ⟨v, N, rfl, hK, hsN, hmN⟩
  obtain ⟨hwN, hmN0, hk'⟩ := hk v N hK
  have hge : ∀ e ∈ N, (∃ m ∈ Hw, m.blk = e.blk) ∨ w.heap.size ≤ e.blk := fun e he => hsN.own e he (allWr_mem hwN e he)
  have hne : ∀ e ∈ N, ∀ x ∈ Hr, x.blk ≠ e.blk := fun e he x hx => by
    rcases hge e he with ⟨m, hm, h⟩ | h
    · rw [← h]; exact (hap.2.2 m hm x hx (.inl (hmw m hm))).symm
    · have := Ent.lt (hs1.ents x hx); omega
  refine ⟨v, N ++ Hr, rfl, hk' (freshN_of hne), ⟨hsN.os.trans hs.os, hsN.tape.trans hs.tape, hsN.output.trans hs.output, Nat.le_trans hs.size hsN.size, ?_, ?_, ?_, ?_⟩, ?_⟩
  · intro b hb hmu
    rw [hsN.old b (Nat.lt_of_lt_of_le hb hs.size) (by
      rintro ⟨m, hm, rfl⟩
      rcases hs2.own m hm (hmw m hm) with h | h
      · exact hmu h
      · omega)]
    exact hs.old b hb hmu
  · intro x hx
    rcases List.mem_append.1 hx with hx | hx
    · exact hsN.ents x hx
    · refine Ent.holds_of (hs1.ents x hx) (hsN.old _ (Ent.lt (hs1.ents x hx)) ?_)
      rintro ⟨m, hm, h⟩
      exact hap.2.2 m hm x hx (.inl (hmw m hm)) h
  · intro x hx hxw
    rcases List.mem_append.1 hx with hx | hx
    · rcases hge x hx with ⟨m, hm, h⟩ | h
      · rw [← h]; exact hs2.own m hm (hmw m hm)
      · exact .inr (Nat.le_trans hs.size h)
    · exact hs1.own x hx hxw
  · exact List.pairwise_append.2 ⟨hsN.apart, hap.2.1, fun x hx y hy _ => (hne x hx y hy).symm⟩
  · rw [marks_append, hmN0, marks_append, mks Hw hmo]
end Go.Ev
set_option linter.unusedSimpArgs false
set_option linter.unusedVariables false
namespace Go.Ev
open Go.RowKit
theorem WpV.perm {P : Program} {r : Option Nat} {n : Nat} {c : Code} {K : Exit → Tm → Hp → Prop} {T : Tm} {H H' : Hp} (hp : H.Perm H') (hm : marksOf H' = marksOf H) (h : WpV P r n c K T H') : WpV P r n c K T H :=
  fun w0 mu a w hr ht hs hd => h w0 mu a w hr ht (hs.perm hp) (by rw [hd, defersOf, defersOf, hm])
theorem find_behind {L M : Hp} (hL : freshN L M) : ∀ b e, findE M b = some e → findE (L ++ M) b = some e := fun b e he => by rw [findE_freshN hL he]; exact he
end Go.Ev
set_option linter.unusedSimpArgs false
set_option linter.unusedVariables false
namespace Go.Proofs.YtolmipnaheifcaaGreatDoor
open Go Go.Ev Go.Proofs Go.RowKit Go.Extern.Stop Go.Stop Go.Extern
set_option maxRecDepth 100000
set_option maxHeartbeats 4000000
theorem xAs_nil (t : Value) (w : World) : Calls Tryz.prog 37 #[.nilIface, t] w fun e w' => e = .returned (.bool false) ∧ w' = w := by
  go_enter Tryz.func37, Tryz.ntmps37
  go_wp2
  go_ret
  exact ⟨rfl, rfl⟩
theorem xValueOfFF (t : Addr) (w : World) : (ReflectliteValue.unpack (.iface 70 (.pointer (some t)))).run Tryz.prog w
    = .ok (.agg #[.pointer (some ⟨4, 70, none⟩), .pointer (some ⟨w.heap.size, 0, none⟩), .int .u64 150]) (w.alloc (.cells #[.pointer (some t)] 70)) := by kernel_rfl
theorem xTypeFF (a : Addr) (w : World) : (ReflectliteValue.methodAny (ReflectliteValue.valueError "reflectlite.Value.Type" 0) (fun t _ _ _ => ReflectliteType.toType t) #[.agg #[.pointer (some ⟨4, 70, none⟩), .pointer (some a), .int .u64 150]]).run Tryz.prog w
    = .ok (.iface 128 (.agg #[.pointer (some ⟨4, 70, none⟩)])) w := by kernel_rfl
theorem xMethodKind (h : Value) (w : World) : (Go.method 283 128 (.agg #[h]) "Kind").run Tryz.prog w = .ok (104, h) w := by kernel_rfl
theorem xKindFF (w : World) : ((ReflectliteType.abiMethod fun t => (fun a : Nat => Value.int IntKind.u8 (a : Int)) <$> Rtype.kind t) #[.pointer (some ⟨4, 70, none⟩)]).run Tryz.prog w = .ok (.int .u8 22) w := by kernel_rfl
theorem xKindF (w : World) : ((ReflectliteType.abiMethod fun t => (fun a : Nat => Value.int IntKind.u8 (a : Int)) <$> Rtype.kind t) #[.pointer (some ⟨4, 68, none⟩)]).run Tryz.prog w = .ok (.int .u8 22) w := by kernel_rfl
theorem xrlm (z : Sem Value) (f : TypeId → Addr → Nat → Nat → Sem Value) (v : Value) :
    ReflectliteValue.method z f #[v] = (do match ← ReflectliteValue.parts v with | none => z | some (t, a, fl) => f t a fl (fl % 32)) := rfl
theorem xPartsFF (a : Addr) (w : World) : (ReflectliteValue.parts (.agg #[.pointer (some ⟨4, 70, none⟩), .pointer (some a), .int .u64 150])).run Tryz.prog w = .ok (some (70, a, 150)) w := by kernel_rfl
theorem xIsNilFF (a p : Addr) (W : World) (ha : W.cell? a = some (.pointer (some p))) :
    (ReflectliteValue.method (ReflectliteValue.valueError "reflectlite.Value.IsNil" 0) ReflectliteValue.isNil #[.agg #[.pointer (some ⟨4, 70, none⟩), .pointer (some a), .int .u64 150]]).run Tryz.prog W = .ok (.bool false) W := by
  rw [xrlm]
  simp only [Sem.run_bind, xPartsFF, Result.andThen]
  simp [ReflectliteValue.isNil, loadVar, isAgg, underlying, Tryz.underlying70, ha, Result.andThen]
theorem xMethodElem (h : Value) (w : World) : (Go.method 283 128 (.agg #[h]) "Elem").run Tryz.prog w = .ok (115, .agg #[h]) w := by kernel_rfl
theorem xMethodImplements (h : Value) (w : World) : (Go.method 283 128 (.agg #[h]) "Implements").run Tryz.prog w = .ok (116, .agg #[h]) w := by kernel_rfl
theorem xMethodAssignableTo (h : Value) (w : World) : (Go.method 283 128 (.agg #[h]) "AssignableTo").run Tryz.prog w = .ok (113, .agg #[h]) w := by kernel_rfl
theorem xElemFF (w : World) : (ReflectliteType.method ReflectliteType.elem #[.agg #[.pointer (some ⟨4, 70, none⟩)]]).run Tryz.prog w = .ok (.iface 128 (.agg #[.pointer (some ⟨4, 68, none⟩)])) w := by kernel_rfl
theorem xImplementsF (w : World) : (ReflectliteType.relation "Implements" ReflectliteType.implements_ #[.agg #[.pointer (some ⟨4, 68, none⟩)], .iface 128 (.agg #[.pointer (some ⟨4, 62, none⟩)])]).run Tryz.prog w = .ok (.bool true) w := by kernel_rfl
theorem xTypeOfF (v : Value) (w : World) : (ReflectliteType.typeOf #[.iface 68 v]).run Tryz.prog w = .ok (.iface 128 (.agg #[.pointer (some ⟨4, 68, none⟩)])) w := by kernel_rfl
theorem xAssignableF (w : World) : (ReflectliteType.relation "AssignableTo" ReflectliteType.assignableTo #[.agg #[.pointer (some ⟨4, 68, none⟩)], .iface 128 (.agg #[.pointer (some ⟨4, 68, none⟩)])]).run Tryz.prog w = .ok (.bool true) w := by kernel_rfl
theorem xValueOfF (e : Addr) (w : World) : (ReflectliteValue.unpack (.iface 68 (.pointer (some e)))).run Tryz.prog w
    = .ok (.agg #[.pointer (some ⟨4, 68, none⟩), .pointer (some ⟨w.heap.size, 0, none⟩), .int .u64 150]) (w.alloc (.cells #[.pointer (some e)] 68)) := by kernel_rfl
theorem xElemOfFF (w : World) : (Rtype.elem? 70).run Tryz.prog w = .ok (some 68) w := by kernel_rfl
theorem xMkF (p : Addr) (w : World) : (ReflectliteValue.mk 68 p ReflectliteValue.flagAddr).run Tryz.prog w = .ok (.agg #[.pointer (some ⟨4, 68, none⟩), .pointer (some p), .int .u64 406]) w := by kernel_rfl
theorem xElemVFF (a p : Addr) (W : World) (ha : W.cell? a = some (.pointer (some p))) :
    (ReflectliteValue.method (ReflectliteValue.valueError "reflectlite.Value.Elem" 0) ReflectliteValue.elem #[.agg #[.pointer (some ⟨4, 70, none⟩), .pointer (some a), .int .u64 150]]).run Tryz.prog W
      = .ok (.agg #[.pointer (some ⟨4, 68, none⟩), .pointer (some p), .int .u64 406]) W := by
  rw [xrlm]
  simp only [Sem.run_bind, xPartsFF, Result.andThen]
  simp [ReflectliteValue.elem, loadVar, isAgg, underlying, Tryz.underlying70, ha, Result.andThen, xElemOfFF, xMkF]
theorem xrls (v x : Value) : ReflectliteValue.set #[v, x] = (do
    let (some (dst, a, fl), some (src, b, _)) := (← ReflectliteValue.parts v, ← ReflectliteValue.parts x)
      | unsupported (.noEntry "extern/(internal/reflectlite.Value).Set.zeroValue")
    if fl / ReflectliteValue.flagAddr % 2 == 0 then unsupported (.noEntry "extern/(internal/reflectlite.Value).Set.unaddressable")
    let val ← loadVar src b
    if ← Rtype.directlyAssignable dst src then storeVar dst a val
    else if ← Rtype.implements dst src then
      if (← Rtype.kind src) == 20 then
        match val with
        | .nilIface => unsupported (.noEntry "extern/reflectlite: a nil value of one interface type handed on as a value of another")
        | _ => storeVar dst a val
      else storeVar dst a (.iface src val)
    else panicString ("reflectlite.Set: value of type " ++ (← Rtype.spelt src) ++ " is not assignable to type " ++ (← Rtype.spelt dst))
    pure (.tuple #[])) := rfl
theorem xPartsFa (a : Addr) (w : World) : (ReflectliteValue.parts (.agg #[.pointer (some ⟨4, 68, none⟩), .pointer (some a), .int .u64 406])).run Tryz.prog w = .ok (some (68, a, 406)) w := by kernel_rfl
theorem xPartsF (a : Addr) (w : World) : (ReflectliteValue.parts (.agg #[.pointer (some ⟨4, 68, none⟩), .pointer (some a), .int .u64 150])).run Tryz.prog w = .ok (some (68, a, 150)) w := by kernel_rfl
theorem xDirectF (w : World) : (Rtype.directlyAssignable 68 68).run Tryz.prog w = .ok true w := by kernel_rfl
theorem xSetF (ta b e : Addr) (old : Value) (W : World) (hb : W.cell? b = some (.pointer (some e))) (ht : W.cell? ta = some old) (hf : W.frozen? ta = false) :
    (ReflectliteValue.set #[.agg #[.pointer (some ⟨4, 68, none⟩), .pointer (some ta), .int .u64 406], .agg #[.pointer (some ⟨4, 68, none⟩), .pointer (some b), .int .u64 150]]).run Tryz.prog W
      = .ok (.tuple #[]) (W.setCell ta (.pointer (some e))) := by
  rw [xrls]
  simp only [Sem.run_bind, xPartsFa, xPartsF, Result.andThen]
  simp [ReflectliteValue.flagAddr, loadVar, isAgg, underlying, Tryz.underlying68, hb, Result.andThen, xDirectF, storeVar, Value.cells, storeCells, Addr.add]
  rw [run_store Tryz.prog W ta _ _ (by rfl)]
  simp [ht, hf]
theorem xAs_hit (e t : Addr) (old : Value) (w : World) (hg : w.cell? ⟨0, 0, none⟩ = some (.iface 128 (.agg #[.pointer (some ⟨4, 62, none⟩)]))) (ht0 : w.cell? t = some old) (hf0 : w.frozen? t = false) :
    Calls Tryz.prog 37 #[.iface 68 (.pointer (some e)), .iface 70 (.pointer (some t))] w fun ev w' => ev = .returned (.bool true) ∧ w' = ((((w.alloc (.cells #[.pointer (some t)] 70)).alloc (.cells #[.pointer (some ⟨4, 70, none⟩), .pointer (some ⟨w.heap.size, 0, none⟩), .int .u64 150] 104)).alloc (.cells #[.pointer (some ⟨4, 70, none⟩), .pointer (some ⟨w.heap.size, 0, none⟩), .int .u64 150] 104)).alloc (.cells #[.pointer (some e)] 68)).setCell t (.pointer (some e)) := by
  have h6 := @run_callFunc_extern Tryz.prog 57 _ (fun args => ReflectliteValue.unpack (args.getD 0 (.tuple #[]))) Tryz.func57 (by kernel_rfl) (by kernel_rfl) (by kernel_rfl) (by kernel_rfl)
  have h7 := @run_callFunc_extern Tryz.prog 58 _ (ReflectliteValue.methodAny (ReflectliteValue.valueError "reflectlite.Value.Type" 0) (fun t _ _ _ => ReflectliteType.toType t)) Tryz.func58 (by kernel_rfl) (by kernel_rfl) (by kernel_rfl) (by kernel_rfl)
  have h8 := @run_callFunc_extern Tryz.prog 59 _ (ReflectliteValue.method (ReflectliteValue.valueError "reflectlite.Value.IsNil" 0) ReflectliteValue.isNil) Tryz.func59 (by kernel_rfl) (by kernel_rfl) (by kernel_rfl) (by kernel_rfl)
  have h27 := @run_callFunc_extern Tryz.prog 104 _ (ReflectliteType.abiMethod fun t => do pure (.int .u8 (← Rtype.kind t))) Tryz.func104 (by kernel_rfl) (by kernel_rfl) (by kernel_rfl) (by kernel_rfl)
  have h37 := @run_callFunc_extern Tryz.prog 115 _ (ReflectliteType.method ReflectliteType.elem) Tryz.func115 (by kernel_rfl) (by kernel_rfl) (by kernel_rfl) (by kernel_rfl)
  have h38 := @run_callFunc_extern Tryz.prog 116 _ (ReflectliteType.relation "Implements" ReflectliteType.implements_) Tryz.func116 (by kernel_rfl) (by kernel_rfl) (by kernel_rfl) (by kernel_rfl)
  have h10 := @run_callFunc_extern Tryz.prog 76 _ ReflectliteType.typeOf Tryz.func76 (by kernel_rfl) (by kernel_rfl) (by kernel_rfl) (by kernel_rfl)
  have h35 := @run_callFunc_extern Tryz.prog 113 _ (ReflectliteType.relation "AssignableTo" ReflectliteType.assignableTo) Tryz.func113 (by kernel_rfl) (by kernel_rfl) (by kernel_rfl) (by kernel_rfl)
  have h11 := @run_callFunc_extern Tryz.prog 77 _ (ReflectliteValue.method (ReflectliteValue.valueError "reflectlite.Value.Elem" 0) ReflectliteValue.elem) Tryz.func77 (by kernel_rfl) (by kernel_rfl) (by kernel_rfl) (by kernel_rfl)
  have h12 := @run_callFunc_extern Tryz.prog 78 _ ReflectliteValue.set Tryz.func78 (by kernel_rfl) (by kernel_rfl) (by kernel_rfl) (by kernel_rfl)
  have tO := xTypeOfF
  have mA := xMethodAssignableTo
  have a25 := xAssignableF
  have v25 := xValueOfF
  have f6 := xValueOfFF
  have f7 := xTypeFF
  have mK := xMethodKind
  have mE := xMethodElem
  have mI := xMethodImplements
  have k27 := xKindFF
  have k25 := xKindF
  have e27 := xElemFF
  have i25 := xImplementsF
  have n8 := xIsNilFF ⟨w.heap.size, 0, none⟩ t ((w.alloc (.cells #[.pointer (some t)] 70)).alloc (.cells #[.pointer (some ⟨4, 70, none⟩), .pointer (some ⟨w.heap.size, 0, none⟩), .int .u64 150] 104)) (by simp)
  have hlt : 0 < w.heap.size := by
    rcases Nat.eq_zero_or_pos w.heap.size with h0 | h
    · simp [World.cell?, h0] at hg
    · exact h
  have hg2 : ((w.alloc (.cells #[.pointer (some t)] 70)).alloc (.cells #[.pointer (some ⟨4, 70, none⟩), .pointer (some ⟨w.heap.size, 0, none⟩), .int .u64 150] 104)).cell? ⟨0, 0, none⟩ = some (.iface 128 (.agg #[.pointer (some ⟨4, 62, none⟩)])) := by
    rw [World.cell?_alloc_lt _ _ ⟨0, 0, none⟩ (by simp), World.cell?_alloc_lt _ _ ⟨0, 0, none⟩ hlt]; exact hg
  have htl : t.block < w.heap.size := by
    rcases Nat.lt_or_ge t.block w.heap.size with h | h
    · exact h
    · simp [World.cell?, Array.getElem?_eq_none h] at ht0
  have el := xElemVFF ⟨w.heap.size, 0, none⟩ t (((w.alloc (.cells #[.pointer (some t)] 70)).alloc (.cells #[.pointer (some ⟨4, 70, none⟩), .pointer (some ⟨w.heap.size, 0, none⟩), .int .u64 150] 104)).alloc (.cells #[.pointer (some ⟨4, 70, none⟩), .pointer (some ⟨w.heap.size, 0, none⟩), .int .u64 150] 104)) (by rw [World.cell?_alloc_lt _ _ ⟨w.heap.size, 0, none⟩ (by simp; omega)]; simp)
  have st := xSetF t ⟨w.heap.size + 1 + 1 + 1, 0, none⟩ e old ((((w.alloc (.cells #[.pointer (some t)] 70)).alloc (.cells #[.pointer (some ⟨4, 70, none⟩), .pointer (some ⟨w.heap.size, 0, none⟩), .int .u64 150] 104)).alloc (.cells #[.pointer (some ⟨4, 70, none⟩), .pointer (some ⟨w.heap.size, 0, none⟩), .int .u64 150] 104)).alloc (.cells #[.pointer (some e)] 68))
    (by rw [World.cell?_alloc_at _ _ _ _ (by simp)]; rfl)
    (by rw [World.cell?_alloc_lt _ _ t (by simp; omega), World.cell?_alloc_lt _ _ t (by simp; omega), World.cell?_alloc_lt _ _ t (by simp; omega), World.cell?_alloc_lt _ _ t htl]; exact ht0)
    (by rw [World.frozen?_alloc_old _ _ t (by simp; omega), World.frozen?_alloc_old _ _ t (by simp; omega), World.frozen?_alloc_old _ _ t (by simp; omega), World.frozen?_alloc_old _ _ t (Nat.ne_of_lt htl)]; exact hf0)
  go_enter Tryz.func37, Tryz.ntmps37
  go_wp2
  refine wp_loop_rounds 1 ?_
  rw [rounds_succ]
  go_wp2
  go_ret
  exact ⟨rfl, rfl⟩
end Go.Proofs.YtolmipnaheifcaaGreatDoor
set_option linter.unusedSimpArgs false
set_option linter.unusedVariables false
namespace Go.Ev
theorem Turn.setCell (w : World) (b : Nat) (v : Value) : Turn b w (w.setCell ⟨b, 0, none⟩ v) :=
  ⟨rfl, rfl, rfl, by simp [World.setCell], fun k hk hne => by simp [World.setCell, Array.getElem?_modify, Ne.symm hne]⟩
theorem Sat.allocs {w0 w : World} {mu : Nat → Prop} {H : Hp} (h : Sat w0 mu H w) (cs : Array Value) (t : TypeId) : Sat w0 mu H (w.alloc (.cells cs t)) := by
  have := h.alloc (e := ⟨w.heap.size, 0, .cel t, cs.toList⟩) rfl (o := .cells cs t) (by
    unfold Ent.holds
    exact ⟨rfl, by simpa using World.alloc_heap_new w (.cells cs t)⟩)
  exact this.weak (List.sublist_cons_self _ _)
theorem Sat.setCel {w0 w : World} {mu : Nat → Prop} {H : Hp} {b : Nat} {t : TypeId} {old v : Value} (h : Sat w0 mu (⟨b, 0, .cel t, [old]⟩ :: H) w) : Sat w0 mu (⟨b, 0, .cel t, [v]⟩ :: H) (w.setCell ⟨b, 0, none⟩ v) := by
  have hh := h.ents _ (List.mem_cons_self ..)
  have := h.upd (Turn.setCell w b v) (e := ⟨b, 0, .cel t, [old]⟩) (by simp [findE]) trivial (cs := [v]) (by
    obtain ⟨-, hb⟩ := hh
    dsimp only at hb
    refine ⟨rfl, ?_⟩
    simp [World.setCell, Array.getElem?_modify, hb])
  simpa [updE] using this
end Go.Ev
namespace Go.Proofs.YtolmipnaheifcaaGreatDoor
open Go Go.Ev Go.Proofs
set_option maxRecDepth 100000
set_option maxHeartbeats 4000000
def ErrR (M : Hp) : Prop := cellsAt M 0 0 1 = some [.iface 128 (.agg #[.pointer (some ⟨4, 62, none⟩)])]
theorem ErrR.congr {A B : Hp} (h : cellsAt A = cellsAt B) (hk : ErrR A) : ErrR B := by unfold ErrR at hk ⊢; rw [← h]; exact hk
theorem ErrR.ext {A B : Hp} (h : Ext A B) (hk : ErrR A) : ErrR B := h.keep _ _ _ _ hk
theorem errAs_nil {t : Value} {H : Hp} : CallsV Tryz.prog 37 [.nilIface, t] H (fun v H' => v = .bool false ∧ H' = H) := by
  refine ⟨enterO Tryz.func37 rfl rfl, fun w0 mu w hs => ?_⟩
  refine CallsIn.mono (callsIn_wide.2 (xAs_nil t w)) ?_
  rintro e w' ⟨rfl, rfl⟩
  exact ⟨_, _, rfl, ⟨rfl, rfl⟩, hs, rfl⟩
theorem errAs_hit {M : Hp} {bt : Nat} {e : Addr} {old : Value} (hk : ErrR M) (hm : marksOf M = []) :
    CallsV Tryz.prog 37 [.iface 68 (.pointer (some e)), .iface 70 (.pointer (some ⟨bt, 0, none⟩))] (⟨bt, 0, .cel 68, [old]⟩ :: M)
      (fun v H' => v = .bool true ∧ H' = [⟨bt, 0, .cel 68, [.pointer (some e)]⟩]) := by
  refine ⟨enterO Tryz.func37 rfl rfl, fun w0 mu w hs => ?_⟩
  have hM := hs.weak (List.sublist_cons_self _ M)
  have hg := (hM.cellsAt hk).2 0 _ rfl
  have hb := hs.ents _ (List.mem_cons_self ..)
  have ht0 := Ent.cell hb (k := 0) (v := old) rfl
  obtain ⟨-, hb2⟩ := hb
  dsimp only at hb2
  have hf0 : w.frozen? ⟨bt, 0, none⟩ = false := by simp [World.frozen?, hb2]
  refine CallsIn.mono (callsIn_wide.2 (xAs_hit e ⟨bt, 0, none⟩ old w hg ht0 hf0)) ?_
  rintro ev w' ⟨rfl, rfl⟩
  refine ⟨_, _, rfl, ⟨rfl, rfl⟩, ?_, by simp only [marksOf, hm]⟩
  exact ((((hs.weak (((List.nil_sublist M).cons_cons _))).allocs _ _).allocs _ _).allocs _ _ |>.allocs _ _).setCel
end Go.Proofs.YtolmipnaheifcaaGreatDoor
set_option linter.unusedSimpArgs false
set_option linter.unusedVariables false
namespace Go.Proofs.YtolmipnaheifcaaGreatDoor
open Go Go.Ev Go.Proofs Go.ChangeShapes Go.WideShapes Go.ChangeAt Go.RowKit
set_option maxRecDepth 100000
set_option maxHeartbeats 4000000
def errH : Value := .iface 128 (.agg #[.pointer (some ⟨4, 62, none⟩)])
noncomputable def handW0 (os : Os) : World :=
  let w0 := World.holding Tryz.prog os ⟨#[], #[], []⟩
  { w0 with heap := w0.heap.modify 0 fun
      | .cells _ t frozen => .cells #[errH] t frozen
      | o => o }
def noHand (laid : List (String × DataW Unit)) : List (String × DataW Unit) := laid.filter fun x => x.2.handleName?.isNone
noncomputable def handW (os : Os) (laid : List (String × DataW Unit)) : World := (handW0 os).layVars Tryz.prog (noHand laid)
theorem handW_os (os : Os) (laid : List (String × DataW Unit)) : (handW os laid).os = os := (World.layVars_os _ _ _).trans (by kernel_rfl)
theorem handW_met {os : Os} {laid : List (String × DataW Unit)} (args : Array Value) (hf : (handW0 os).layFits Tryz.prog (noHand laid) [] = true) (hi : (handW0 os).layIfaces Tryz.prog (noHand laid) (handW os laid) = true)
    (hh : (laid.filter fun x => x.2.handleName?.isSome).all (handleAtB Tryz.prog (handW os laid)) = true) : laidMetH Tryz.prog laid ((handW os laid).forCall (fun _ _ => 0) ⟨#[], args, []⟩).memory := by
  have e1 : ((noHand laid).filter fun x => ((noHand laid).map (·.1)).contains x.1) = noHand laid := List.filter_eq_self.2 fun x hx => List.contains_iff_mem.2 (List.mem_map.2 ⟨x, hx, rfl⟩)
  have e2 : ((noHand laid).filter fun x => !((noHand laid).map (·.1)).contains x.1) = [] := List.filter_eq_nil_iff.2 fun x hx => by rw [List.contains_iff_mem.2 (List.mem_map.2 ⟨x, hx, rfl⟩)]; simp
  have h : laidMet Tryz.prog (noHand laid) (handW os laid) := laidMet_layVars (w0 := handW0 os) ((noHand laid).map (·.1)) [] (by rw [e1]; rfl) (by rw [e1]; exact hf) (by rw [e1]; exact hi) (by rw [e2]; exact LaidIn.none)
  have h2 : laidMetH Tryz.prog laid (handW os laid) := laidMetH_of_parts h hh
  exact laidMetH.of_heap (by simp [World.memory, World.forCall, Input.heap]) h2
theorem errR_of {W : World} {laid : List (String × DataW Unit)} (h : laidMetH Tryz.prog laid W) (he : (laid.filter fun x => x.2.handleName?.isSome) = [("errors.errorType", Rows.laid_errors_errorType)]) : ErrR (roW W) := by
  unfold laidMetH at h
  rw [he] at h
  obtain ⟨-, h⟩ := h
  obtain ⟨name, u, ty, e1, e2, e3, e4, e5⟩ := h _ (List.mem_singleton.2 rfl)
  have en : name = [101, 114, 114, 111, 114] := (Option.some.inj e1).symm
  subst en
  have hrt : (Tryz.prog.cutTypes.find? (·.1 == "internal/reflectlite.rtype")).map (·.2) = some 128 := by kernel_rfl
  obtain rfl := Option.some.inj (hrt.symm.trans e2)
  have hsize : Tryz.prog.types.size = 283 - 100 := by kernel_rfl
  have hone : ((List.range (283 - 100)).filter fun t => Tryz.prog.rowNamed t [101, 114, 114, 111, 114]) = [62] := by kernel_rfl
  have hm : ty ∈ (List.range (283 - 100)).filter fun t => Tryz.prog.rowNamed t [101, 114, 114, 111, 114] := List.mem_filter.2 ⟨List.mem_range.2 (by rw [← hsize]; exact e3), e4⟩
  rw [hone] at hm
  obtain rfl := List.mem_singleton.1 hm
  have hh : typeHandle Tryz.prog 62 = .pointer (some ⟨4, 62, none⟩) := by kernel_rfl
  rw [hh] at e5
  have hg0 : Tryz.prog.globalNamed "errors.errorType" = some 0 := by kernel_rfl
  unfold World.var? at e5
  rw [hg0] at e5
  simp only [Option.bind_some] at e5
  unfold ErrR cellsAt
  cases ho : W.heap[0]? with
  | none => rw [ho] at e5; cases e5
  | some o =>
    have hlt : 0 < W.heap.size := (Array.getElem?_eq_some_iff.1 ho).1
    rw [ho] at e5
    cases o <;> first | cases e5 | skip
    rw [roW_find hlt]
    unfold blkE
    rw [ho]
    rfl
end Go.Proofs.YtolmipnaheifcaaGreatDoor
set_option linter.unusedSimpArgs false
set_option linter.unusedVariables false
namespace Go.Ev
theorem remE_freshN {N : Hp} {e : Ent} (h : freshN N [e]) : remE (N ++ [e]) e.blk = N := by
  induction N with
  | nil => simp [remE]
  | cons x r ih =>
    have : ¬ e.blk = x.blk := h.1.2.1
    simp only [List.cons_append, remE, if_neg this]
    rw [ih h.2]
theorem updE_freshN {N : Hp} {e : Ent} (h : freshN N [e]) (cs : List Value) : updE (N ++ [e]) e.blk cs = N ++ [{ e with cells := cs }] := by
  induction N with
  | nil => simp [updE]
  | cons x r ih =>
    have : ¬ e.blk = x.blk := h.1.2.1
    simp only [List.cons_append, updE, if_neg this]
    rw [ih h.2]
theorem freshN_blk {N : Hp} {e e' : Ent} (hb : e.blk = e'.blk) (h : freshN N [e]) : freshN N [e'] := by
  induction N with
  | nil => trivial
  | cons x r ih =>
    obtain ⟨⟨h1, h2, _⟩, h3⟩ := h
    exact ⟨⟨hb ▸ h1, hb ▸ h2, trivial⟩, ih h3⟩
def idG : List Value → Option Value
  | [x] => some x
  | _ => none
attribute [push_cast] idG
theorem byteV_len (l : List UInt8) : (byteV l).length = l.length := by simp [byteV]
theorem byteV_one (l : List UInt8) : (byteV l).all oneC = true := by simp [byteV, oneC]
theorem byteV_app (l m : List UInt8) : byteV (l ++ m) = byteV l ++ byteV m := by simp [byteV]
end Go.Ev
namespace Go.Proofs.YtolmipnaheifcaaGreatDoor
open Go Go.Ev Go.Proofs
set_option maxRecDepth 100000
set_option maxHeartbeats 4000000
theorem noEscape (args : List Value) (v : Value) (h : idG args = some v) : ExtV Tryz.prog 87 args v := by
  unfold idG at h
  split at h
  case h_2 => cases h
  cases h
  intro w
  rw [run_callFunc_extern Tryz.func87 (by kernel_rfl) (by kernel_rfl) (by kernel_rfl) (e := Extern.AbiNoEscape.same) (by kernel_rfl)]
  rw [Lib.run_noEscape]
  rfl
noncomputable def gS : Gam := (addG 87 idG noG)
attribute [push_cast] gS
theorem gS_ok : GamOk Tryz.prog gS := (addX_ok noEscape (noG_ok _))
theorem pk1 : ptrOk Tryz.prog 118 101 120 2 = true := by kernel_rfl
theorem pk2 : ptrOk Tryz.prog 101 118 120 2 = true := by kernel_rfl
theorem pk3 : (Tryz.prog.info? 120).isSome = true := by kernel_rfl
theorem pk4 : usOk Tryz.prog 142 5 = true := by kernel_rfl
attribute [push_cast] pk1 pk2 pk3 pk4
theorem copyCheck_ok (b : Nat) (p v : Value) (hp : p = .pointer none ∨ p = .pointer (some ⟨b, 0, none⟩)) : CallsV Tryz.prog 81 [.pointer (some ⟨b, 0, none⟩)] [⟨b, 0, .cel 120, [p, v]⟩]
    (fun r N => r = .tuple #[] ∧ N = [⟨b, 0, .cel 120, [.pointer (some ⟨b, 0, none⟩), v]⟩]) := by
  rcases hp with rfl | rfl
  · refine callsO gS_ok Tryz.mix Tryz.pl81 Tryz.func81 rfl Tryz.ntmps81 Tryz.results81 rfl (by first | rfl | assumption) (Nat.le_of_ble_eq_true rfl) (by kernel_rfl) ?_
    simp only [push_cast, seval, reduceCtorEq]
    exact ⟨_, List.Sublist.refl _, rfl⟩
  · refine callsO gS_ok Tryz.mix Tryz.pl81 Tryz.func81 rfl Tryz.ntmps81 Tryz.results81 rfl (by first | rfl | assumption) (Nat.le_of_ble_eq_true rfl) (by kernel_rfl) ?_
    simp only [push_cast, seval, reduceCtorEq]
    exact ⟨_, List.Sublist.refl _, rfl⟩
theorem write_ok (b : Nat) (p v : Value) (hp : p = .pointer none ∨ p = .pointer (some ⟨b, 0, none⟩)) (l : List UInt8) (Nv : Hp) (ho : OutC 5 1 (byteV l) l.length v Nv) (hf : freshN Nv [⟨b, 0, .cel 120, [p, v]⟩]) (s : ByteArray) (hlen : l.length + s.size ≤ 140737488355328) :
    CallsV Tryz.prog 67 [.pointer (some ⟨b, 0, none⟩), .string s] (Nv ++ [⟨b, 0, .cel 120, [p, v]⟩])
    (fun r N => r = .tuple #[.int .i64 s.size, .nilIface] ∧ ∃ v' N', OutC 5 1 (byteV (l ++ s.data.toList)) (l ++ s.data.toList).length v' N' ∧ freshN N' [⟨b, 0, .cel 120, [.pointer (some ⟨b, 0, none⟩), v']⟩] ∧ N = N' ++ [⟨b, 0, .cel 120, [.pointer (some ⟨b, 0, none⟩), v']⟩]) := by
  obtain ⟨pa, ca, rfl⟩ := ho.slice
  have fb : findE (Nv ++ [⟨b, 0, .cel 120, [p, .slice pa l.length ca]⟩]) b = some ⟨b, 0, .cel 120, [p, .slice pa l.length ca]⟩ := by
    rw [findE_freshN hf (b := b) (e := ⟨b, 0, .cel 120, [p, .slice pa l.length ca]⟩) (by simp only [push_cast, seval, reduceCtorEq])]; simp only [push_cast, seval, reduceCtorEq]
  have hm : marksOf (Nv ++ [⟨b, 0, .cel 120, [p, .slice pa l.length ca]⟩]) = [] := by rw [marks_append, ho.wr.2]; rfl
  have hsz : s.data.toList.length = s.size := by rw [Array.length_toList]; rfl
  refine callsO gS_ok Tryz.mix Tryz.pl67 Tryz.func67 rfl Tryz.ntmps67 Tryz.results67 rfl (by first | rfl | assumption) (Nat.le_of_ble_eq_true rfl) (by kernel_rfl) ?_
  simp only [push_cast, seval, reduceCtorEq]
  refine CallsV.useM (copyCheck_ok b p (.slice pa l.length ca) hp) fb rfl trivial ?_
  rintro r N ⟨rfl, rfl⟩
  refine ⟨⟨trivial, trivial⟩, rfl, fun hf' => ?_⟩
  rw [show remE (Nv ++ [⟨b, 0, .cel 120, [p, .slice pa l.length ca]⟩]) b = Nv from remE_freshN hf] at hf' ⊢
  simp only [push_cast, seval, reduceCtorEq]
  rw [show (⟨b, 0, .cel 120, [.pointer (some ⟨b, 0, none⟩), .slice pa l.length ca]⟩ :: Nv : Hp) = ⟨b, 0, .cel 120, [.pointer (some ⟨b, 0, none⟩), .slice pa l.length ca]⟩ :: (Nv ++ []) by rw [List.append_nil]]
  refine append_out1 (e := 5) (sz := 1) (by_ := 1) (n := l.length) (m := s.size) (ys := byteV s.data.toList) ho (by rw [List.append_nil]; exact hf'.1) (by simp only [push_cast, seval, reduceCtorEq]) (by simp only [push_cast, seval, reduceCtorEq]) (by rw [byteV_len, hsz, Nat.mul_one]) (byteV_one _) (by unfold two47; omega) fun v' N' ho' hf2 => ?_
  obtain ⟨pb, cb, rfl⟩ := ho'.slice
  have fb' : findE (N' ++ [⟨b, 0, .cel 120, [.pointer (some ⟨b, 0, none⟩), .slice pa l.length ca]⟩]) b = some ⟨b, 0, .cel 120, [.pointer (some ⟨b, 0, none⟩), .slice pa l.length ca]⟩ := by
    rw [findE_freshN hf2 (b := b) (e := ⟨b, 0, .cel 120, [.pointer (some ⟨b, 0, none⟩), .slice pa l.length ca]⟩) (by simp only [push_cast, seval, reduceCtorEq])]; simp only [push_cast, seval, reduceCtorEq]
  have ub : ∀ cs, updE (N' ++ [⟨b, 0, .cel 120, [.pointer (some ⟨b, 0, none⟩), .slice pa l.length ca]⟩]) b cs = N' ++ [⟨b, 0, .cel 120, cs⟩] := fun cs => updE_freshN hf2 cs
  have hm2 : marksOf (N' ++ [⟨b, 0, .cel 120, [.pointer (some ⟨b, 0, none⟩), .slice pb (l.length + s.size) cb]⟩]) = [] := by rw [marks_append, ho'.wr.2]; rfl
  simp only [push_cast, seval, reduceCtorEq, fb', ub]
  refine ⟨N' ++ [⟨b, 0, .cel 120, [.pointer (some ⟨b, 0, none⟩), .slice pb (l.length + s.size) cb]⟩], ?_, .slice pb (l.length + s.size) cb, N', ?_, freshN_blk (by rfl) hf2, rfl⟩
  · rw [dropM_eq hm2]; exact List.Sublist.refl _
  · rw [byteV_app]; simp only [List.length_append, hsz]; exact ho'
def plStr : Plans := fun i => if i = 1 then [(0, 0), (1, 0), (2, 0), (3, 0), (5, 0), (6, 0), (7, 0), (8, 0), (9, 0), (4, 2), (10, 1), (11, 0)] else []
attribute [push_cast] plStr
theorem string_ok (b : Nat) (p v : Value) (l : List UInt8) (hl : l.length < 9223372036854775807) (Nv : Hp) (ho : OutC 5 1 (byteV l) l.length v Nv) (hf : freshN Nv [⟨b, 0, .cel 120, [p, v]⟩]) :
    CallsV Tryz.prog 68 [.pointer (some ⟨b, 0, none⟩)] (Nv ++ [⟨b, 0, .cel 120, [p, v]⟩]) (fun r N => r = .string ⟨l.toArray⟩ ∧ N = []) := by
  rcases ho with ⟨h0, h1, rfl, rfl⟩ | ⟨g, c, h0, rfl, hc, hcl, rfl⟩
  · obtain rfl : l = [] := List.eq_nil_of_length_eq_zero h0
    refine callsO gS_ok Tryz.mix plStr Tryz.func68 rfl Tryz.ntmps68 Tryz.results68 rfl (by first | rfl | assumption) (Nat.le_of_ble_eq_true rfl) (by kernel_rfl) ?_
    simp only [push_cast, seval, reduceCtorEq]
    exact ⟨[], List.nil_sublist _, rfl, rfl⟩
  · simp only [push_cast, seval, reduceCtorEq] at hf
    have c0 : ¬ c = 0 := by omega
    have n0 : ¬ (l.length : Int) = 0 := by omega
    have n1 : (0 : Int) < (l.length : Int) := by omega
    have n2 : (l.length : Int) ≤ 9223372036854775807 := by omega
    have tk : List.take l.length (byteV l) = byteV l := List.take_of_length_le (by rw [byteV_len]; exact Nat.le_refl _)
    refine callsO gS_ok Tryz.mix plStr Tryz.func68 rfl Tryz.ntmps68 Tryz.results68 rfl (by first | rfl | assumption) (Nat.le_of_ble_eq_true rfl) (by kernel_rfl) ?_
    simp only [push_cast, seval, reduceCtorEq, hf, c0, n0, n1, n2, byteV_len, tk]
    exact ⟨[], List.nil_sublist _, rfl⟩
end Go.Proofs.YtolmipnaheifcaaGreatDoor
set_option linter.unusedSimpArgs false
set_option linter.unusedVariables false
namespace Go.Ev
end Go.Ev
namespace Go.Proofs.YtolmipnaheifcaaGreatDoor
open Go Go.Ev Go.Proofs
set_option maxRecDepth 100000
set_option maxHeartbeats 4000000
abbrev BldX := { s : Value × Value × Hp // allWr s.2.2 ∧ marksOf s.2.2 = [] }
def bldH (b : Nat) (s : BldX) : Hp := s.1.2.2 ++ [⟨b, 0, .cel 120, [s.1.1, s.1.2.1]⟩]
theorem bldH_wr (b : Nat) (s : BldX) : ∀ e ∈ bldH b s, e.wr := fun e he => by
  rcases List.mem_append.1 he with h | h
  · exact allWr_mem s.2.1 e h
  · rw [List.mem_singleton.1 h]; trivial
theorem bldH_marks (b : Nat) (s : BldX) : marksOf (bldH b s) = [] := by unfold bldH; rw [marks_append, s.2.2]; rfl
end Go.Proofs.YtolmipnaheifcaaGreatDoor
set_option linter.unusedSimpArgs false
set_option linter.unusedVariables false
namespace Go.Ev
theorem OutC.pos {e s n : Nat} {cs : List Value} {v : Value} {N : Hp} (h : OutC e s cs n v N) (hn : 0 < n) : ∃ b c, v = .slice (some ⟨b, 0, none⟩) n c ∧ n ≤ c ∧ cs.length = n * s ∧ N = [⟨b, 0, .vec e s c, cs⟩] := by
  rcases h with ⟨rfl, _, _, _⟩ | ⟨b, c, _, h1, h2, h3, h4⟩
  · exact absurd hn (Nat.lt_irrefl 0)
  · exact ⟨b, c, h1, h2, h3, h4⟩
theorem subH_rot {e : Ent} : ∀ {Hc : Hp}, fresh e.blk Hc → subH (e :: Hc) (Hc ++ [e])
  | [], _ => by
    refine ⟨by simp [findE], ?_⟩
    exact trivial
  | x :: r, h => by
    have h1 : ¬ x.blk = e.blk := h.2.1
    refine ⟨by simp [findE, h1], ?_⟩
    have : remE (e :: x :: r) x.blk = e :: r := by simp [remE, h1]
    rw [this]
    exact subH_rot h.2.2
def zs (l : List Int) : List Value := l.map fun x => .int .i64 x
theorem zs_len (l : List Int) : (zs l).length = l.length := by simp [zs]
theorem zs_app (l m : List Int) : zs (l ++ m) = zs l ++ zs m := by simp [zs]
noncomputable def digN : Nat → Nat → Nat := hid fun n j => n / 256 ^ j % 256
theorem digN_eq (n j : Nat) : digN n j = n / 256 ^ j % 256 := by unfold digN; rw [hid_eq]
theorem digN_lt (n j : Nat) : digN n j < 256 := by rw [digN_eq]; omega
noncomputable def digs (n k : Nat) : List Int := (List.range k).map fun j => ((digN n j : Nat) : Int)
theorem digs_succ (n k : Nat) : digs n (k + 1) = digs n k ++ [((digN n k : Nat) : Int)] := by
  unfold digs; rw [List.range_succ, List.map_append]; rfl
theorem digs_len (n k : Nat) : (digs n k).length = k := by simp [digs]
def W.part (w : W) : Nat → Nat
  | 0 => w.a
  | 1 => w.b
  | 2 => w.c
  | _ => w.d
theorem part_lt (w : W) (i : Nat) : w.part i < 18446744073709551616 := by
  unfold W.part; split
  · exact w.ha
  · exact w.hb
  · exact w.hc
  · exact w.hd
end Go.Ev
namespace Go.Ev
theorem digN_part {n p r j : Nat} (h : n / 256 ^ j = p + 18446744073709551616 * r) {k : Nat} (hk : k < 8) : digN n (j + k) = p / 256 ^ k % 256 := by
  rw [digN_eq, Nat.pow_add, ← Nat.div_div_eq_div_mul, h]
  obtain rfl | rfl | rfl | rfl | rfl | rfl | rfl | rfl : k = 0 ∨ k = 1 ∨ k = 2 ∨ k = 3 ∨ k = 4 ∨ k = 5 ∨ k = 6 ∨ k = 7 := by omega
  all_goals simp only [Nat.reducePow]; omega
theorem dig_part (w : W) {i k : Nat} (hi : i < 4) (hk : k < 8) : digN w.num (8 * i + k) = w.part i / 256 ^ k % 256 := by
  have := w.ha; have := w.hb; have := w.hc; have := w.hd
  obtain rfl | rfl | rfl | rfl : i = 0 ∨ i = 1 ∨ i = 2 ∨ i = 3 := by omega
  · exact digN_part (r := w.b + 18446744073709551616 * (w.c + 18446744073709551616 * w.d)) (by unfold W.num W.part; simp only [Nat.reducePow, Nat.reduceMul]; omega) hk
  · exact digN_part (r := w.c + 18446744073709551616 * w.d) (by unfold W.num W.part; simp only [Nat.reducePow, Nat.reduceMul]; omega) hk
  · exact digN_part (r := w.d) (by unfold W.num W.part; simp only [Nat.reducePow, Nat.reduceMul]; omega) hk
  · exact digN_part (r := 0) (by unfold W.num W.part; simp only [Nat.reducePow, Nat.reduceMul]; omega) hk
end Go.Ev
set_option linter.unusedSimpArgs false
set_option linter.unusedVariables false
namespace Go.Ev
theorem updE_left {N Y : Hp} {b : Nat} {e : Ent} (h : freshN N Y) (hf : findE Y b = some e) (cs : List Value) : updE (N ++ Y) b cs = N ++ updE Y b cs := by
  have hm : e ∈ Y ∧ e.blk = b := findE_mem hf
  induction N with
  | nil => rfl
  | cons x r ih =>
    have : ¬ b = x.blk := by
      intro h0
      exact fresh_ne h.1 e hm.1 (hm.2.trans h0)
    simp only [List.cons_append, updE, if_neg this]
    rw [ih h.2]
def byteArgs (l : List UInt8) : List (List Value) := l.map fun x => [.int .u8 (x.toNat : Nat)]
theorem byteV_take (l : List UInt8) {i : Nat} (h : i < l.length) : byteV (l.take (i + 1)) = byteV (l.take i) ++ [.int .u8 (l[i].toNat : Nat)] := by
  unfold byteV
  rw [List.take_succ_eq_append_getElem h, List.map_append]; rfl
abbrev SeqX := { s : Value × Hp // allWr s.2 ∧ marksOf s.2 = [] }
noncomputable def wbytes : W → List UInt8 := hid fun w => (List.range 32).map fun j => UInt8.ofNat (digN w.num (31 - j))
theorem wbytes_eq (w : W) : wbytes w = (List.range 32).map fun j => UInt8.ofNat (digN w.num (31 - j)) := by unfold wbytes; rw [hid_eq]
theorem wbytes_len (w : W) : (wbytes w).length = 32 := by rw [wbytes_eq, List.length_map, List.length_range]
theorem wbytes_at (w : W) {j : Nat} (h : j < 32) : (wbytes w)[j]? = some (UInt8.ofNat (digN w.num (31 - j))) := by
  rw [wbytes_eq, List.getElem?_map, List.getElem?_range h]; rfl
theorem ofNat_dig (n j : Nat) : (UInt8.ofNat (digN n j)).toNat = digN n j := by
  have := digN_lt n j
  simp [Nat.mod_eq_of_lt this]
theorem octet {x r : Nat} (hx : x < 18446744073709551616) (hr : r < 8) : IntKind.u8.wrap (shrI .u64 (x : Int) ((r : Int) * 8)) = ((x / 256 ^ r % 256 : Nat) : Int) := by
  unfold shrI
  rw [show ((r : Int) * 8).toNat = 8 * r by omega, show min (8 * r) IntKind.u64.bits = 8 * r by show min (8 * r) 64 = 8 * r; omega, Int.fdiv_eq_ediv_of_nonneg _ (Int.pow_nonneg (by decide)), IntKind.wrap_u8]
  rw [show (2 : Int) ^ (8 * r) = ((256 ^ r : Nat) : Int) by rw [Int.natCast_pow, Int.pow_mul]; rfl]
  rw [Int.natCast_emod, Int.natCast_ediv]; rfl
end Go.Ev
namespace Go.Proofs.YtolmipnaheifcaaGreatDoor
open Go Go.Ev Go.Proofs
set_option maxRecDepth 100000
set_option maxHeartbeats 4000000
def seqH (b : Nat) (s : SeqX) : Hp := s.1.2 ++ [⟨b, 0, .cel 49, [s.1.1]⟩]
theorem seqH_wr (b : Nat) (s : SeqX) : ∀ e ∈ seqH b s, e.wr := fun e he => by
  rcases List.mem_append.1 he with h | h
  · exact allWr_mem s.2.1 e h
  · rw [List.mem_singleton.1 h]; trivial
theorem seqH_marks (b : Nat) (s : SeqX) : marksOf (seqH b s) = [] := by unfold seqH; rw [marks_append, s.2.2]; rfl
theorem appendSeq_ok {gf : FuncId} {caps : List Value} {Hc : Hp} {l : List UInt8} (hit : IterV Tryz.prog gf caps Hc (byteArgs l)) (hmc : marksOf Hc = []) (hl : l.length ≤ 1099511627776) :
    CallsV Tryz.prog 65 [.slice none 0 0, .func (.func gf) #[] caps.toArray] Hc (OutC 5 1 (byteV l) l.length) := by
  refine callsO (noG_ok _) Tryz.mix Tryz.pl65 Tryz.func65 rfl Tryz.ntmps65 Tryz.results65 rfl (by first | rfl | assumption) (Nat.le_of_ble_eq_true rfl) (by kernel_rfl) ?_
  simp only [push_cast, seval, reduceCtorEq]
  intro b2 hb2
  refine rangeO (noG_ok _) (pl := Tryz.pl65) Tryz.mix (Hc := Hc) (Hm := []) hit rfl
    (X := SeqX) (seqH b2)
    (fun k s => OutC 5 1 (byteV (l.take k)) k s.1.1 s.1.2 ∧ freshN s.1.2 [⟨b2, 0, .cel 49, [s.1.1]⟩]) (fun _ _ => False) ⟨(.slice none 0 0, []), trivial, rfl⟩
    ?_ ?_ ?_ ?_ (by simp) (fun s => seqH_marks b2 s) (fun s u e he => .inl (seqH_wr b2 u e he)) ?_ (by kernel_rfl) (by kernel_rfl) (fun _ _ h => h.elim) ?_ ?_ (fun _ _ _ _ h => h.elim)
  · exact ⟨.nil _ _, trivial⟩
  · exact subH_rot hb2
  · show marksOf (_ :: Hc) = _
    simp [marksOf, hmc]
  · exact hmc
  · intro args ha
    obtain ⟨z, _, rfl⟩ := List.mem_map.1 ha
    rfl
  · rintro lo k s args hk hs
    obtain ⟨x, hj, rfl⟩ := Option.map_eq_some_iff.1 ((List.getElem?_map ..).symm.trans hk)
    obtain ⟨hk1, rfl⟩ := List.getElem?_eq_some_iff.1 hj
    obtain ⟨ho, hf⟩ := hs
    obtain ⟨⟨v, N⟩, hN⟩ := s
    dsimp only at ho hf
    have hmk := seqH_marks b2 ⟨(v, N), hN⟩
    obtain ⟨pa, ca, rfl⟩ := ho.slice
    have fb : findE (N ++ [⟨b2, 0, .cel 49, [.slice pa k ca]⟩]) b2 = some ⟨b2, 0, .cel 49, [.slice pa k ca]⟩ := by
      rw [findE_freshN hf (b := b2) (e := ⟨b2, 0, .cel 49, [.slice pa k ca]⟩) (by simp only [push_cast, seval, reduceCtorEq])]; simp only [push_cast, seval, reduceCtorEq]
    generalize hRK : (roundK _ _ _ k : Exit → Tm → Hp → Prop) = RK
    show oC _ _ _ _ _ _ _ (parT 13 _ _ [Value.int .u8 (l[k].toNat : Nat)]) _
    unfold seqH at hmk ⊢
    dsimp only at hmk ⊢
    simp only [push_cast, seval, reduceCtorEq, hmk, fb]
    intro b10 hb10
    refine append_out1 (e := 5) (sz := 1) (by_ := 1) (n := k) (m := 1) (ys := [.int .u8 (l[k].toNat : Nat)]) ho hb10 (by simp only [push_cast, seval, reduceCtorEq]) (by simp only [push_cast, seval, reduceCtorEq]) rfl rfl (by unfold two47; omega) fun v' N' ho' hf' => ?_
    obtain ⟨pb, cb, rfl⟩ := ho'.slice
    have h10 : ¬ b2 = b10 := (fresh_app hb10).2.1
    have fb' : findE (N' ++ [⟨b10, 0, .vec 5 1 1, [.int .u8 (l[k].toNat : Nat)]⟩, ⟨b2, 0, .cel 49, [.slice pa k ca]⟩]) b2 = some ⟨b2, 0, .cel 49, [.slice pa k ca]⟩ := by
      rw [findE_freshN hf' (b := b2) (e := ⟨b2, 0, .cel 49, [.slice pa k ca]⟩) (by simp only [push_cast, seval, reduceCtorEq, h10])]; simp only [push_cast, seval, reduceCtorEq, h10]
    have ub : ∀ cs, updE (N' ++ [⟨b10, 0, .vec 5 1 1, [.int .u8 (l[k].toNat : Nat)]⟩, ⟨b2, 0, .cel 49, [.slice pa k ca]⟩]) b2 cs = N' ++ [⟨b10, 0, .vec 5 1 1, [.int .u8 (l[k].toNat : Nat)]⟩, ⟨b2, 0, .cel 49, cs⟩] := fun cs => by
      rw [updE_left hf' (b := b2) (e := ⟨b2, 0, .cel 49, [.slice pa k ca]⟩) (by simp only [push_cast, seval, reduceCtorEq, h10])]; simp only [push_cast, seval, reduceCtorEq, h10]
    simp only [push_cast, seval, reduceCtorEq, fb', ub]
    rw [← hRK]
    refine ⟨⟨(.slice pb (k + 1) cb, N'), ho'.wr⟩, ⟨?_, freshN_blk (by rfl) (freshN_cons hf')⟩, ?_⟩
    · dsimp only
      rw [byteV_take l hk1]
      exact ho'
    · exact subH_pre (subH_cons (a := ⟨b10, 0, .vec 5 1 1, [.int .u8 (l[k].toNat : Nat)]⟩) (X := [⟨b2, 0, .cel 49, [.slice pb (k + 1) cb]⟩]) ⟨fun h => h10 h.symm, h10, trivial⟩) N'
  · rintro D s hfD hs
    obtain ⟨⟨v, N⟩, hN⟩ := s
    obtain ⟨ho, hf⟩ := hs
    dsimp only at ho hf
    unfold seqH at hfD ⊢
    dsimp only at hfD ⊢
    have hDb : ¬ b2 = D := (fresh_app (A := N) (B := [⟨b2, 0, .cel 49, [v]⟩]) hfD).2.1
    rw [show (byteArgs l).length = l.length by simp [byteArgs], List.take_length] at ho
    obtain ⟨pa, ca, rfl⟩ := ho.slice
    have fb : findE (N ++ [⟨b2, 0, .cel 49, [.slice pa l.length ca]⟩]) b2 = some ⟨b2, 0, .cel 49, [.slice pa l.length ca]⟩ := by
      rw [findE_freshN hf (b := b2) (e := ⟨b2, 0, .cel 49, [.slice pa l.length ca]⟩) (by simp only [push_cast, seval, reduceCtorEq])]; simp only [push_cast, seval, reduceCtorEq]
    have hm : marksOf (N ++ [⟨b2, 0, .cel 49, [.slice pa l.length ca]⟩]) = [] := by rw [marks_append, ho.wr.2]; rfl
    simp only [push_cast, seval, reduceCtorEq, hDb, fb]
    refine ⟨N, ?_, ho⟩
    rw [dropM_eq hm]
    exact List.sublist_append_left _ _
end Go.Proofs.YtolmipnaheifcaaGreatDoor
set_option linter.unusedSimpArgs false
set_option linter.unusedVariables false
namespace Go.Ev
noncomputable def wbytesG : List Value → Option Value
  | [x] => (wOf x).bind fun a => some (.string ⟨(wbytes a).toArray⟩)
  | _ => none
attribute [push_cast] wbytesG
end Go.Ev
namespace Go.Proofs.YtolmipnaheifcaaGreatDoor
open Go Go.Ev Go.Proofs
set_option maxRecDepth 100000
set_option maxHeartbeats 4000000
theorem collect_ok {gf : FuncId} {caps : List Value} {Hc : Hp} {l : List UInt8} (hit : IterV Tryz.prog gf caps Hc (byteArgs l)) (hmc : marksOf Hc = []) (hro : ∀ e ∈ Hc, e.kind = .ro) (hd : derE Hc Hc) (hl : l.length ≤ 1099511627776) :
    CallsV Tryz.prog 44 [.func (.func gf) #[] caps.toArray] Hc (OutC 5 1 (byteV l) l.length) := by
  refine callsO (noG_ok _) Tryz.mix Tryz.pl44 Tryz.func44 rfl Tryz.ntmps44 Tryz.results44 rfl (by first | rfl | assumption) (Nat.le_of_ble_eq_true rfl) (by kernel_rfl) ?_
  simp only [push_cast, seval, reduceCtorEq]
  refine (appendSeq_ok hit hmc hl).use hd fun v N ho => ⟨ho.wr.1, ho.wr.2, fun hf => ?_⟩
  simp only [push_cast, seval, reduceCtorEq]
  refine ⟨N, ?_, ho⟩
  rw [dropM_eq (by rw [marks_append, ho.wr.2, hmc]; rfl)]
  exact List.sublist_append_left _ _
theorem octets_ok (w : W) : CallsV Tryz.prog 45 [w.v] [] (fun r N => ∃ b1, r = .func (.func 66) #[] #[.pointer (some ⟨b1, 0, none⟩)] ∧ N = [⟨b1, 0, .cel 25, w.cells⟩]) := by
  refine callsO (noG_ok _) Tryz.mix Tryz.pl45 Tryz.func45 rfl Tryz.ntmps45 Tryz.results45 rfl (by first | rfl | assumption) (Nat.le_of_ble_eq_true rfl) (by kernel_rfl) ?_
  simp only [push_cast, seval, reduceCtorEq]
  intro b1
  exact ⟨_, List.Sublist.refl _, b1, rfl, rfl⟩
theorem octIter {Hc : Hp} {w : W} {b1 : Nat} {k1 : Kind} (hmc : marksOf Hc = []) (h1 : findE Hc b1 = some ⟨b1, 0, k1, w.cells⟩) :
    IterV Tryz.prog 66 [.pointer (some ⟨b1, 0, none⟩)] Hc (byteArgs (wbytes w)) := by
  refine ⟨enterO Tryz.func66 rfl rfl, fun X Ho I St l x0 hro hmk h0 hy => ?_⟩
  have hmarks : ∀ x, marksOf (Hc ++ Ho x) = [] := fun x => by rw [marks_append, hmc, hmk]; rfl
  have hm0 := hmarks x0
  have h1' := fun z => findE_left (B := Ho z) h1
  obtain ⟨vs, hvs⟩ : ∃ vs, vs = byteArgs (wbytes w) := ⟨_, rfl⟩
  have hvl : vs.length = 32 := by rw [hvs]; unfold byteArgs; rw [List.length_map, wbytes_len]
  have yl : ∀ (j : Nat) (z : X) (v : Value) (K' : Value → Hp → Prop), j < 32 → v = .int .u8 (digN w.num (31 - j) : Nat) → I j z → (∀ x', I (j + 1) x' → K' (.bool true) (Hc ++ Ho x')) → (∀ x', St x' → K' (.bool false) (Hc ++ Ho x')) → YieldV Tryz.prog l [v] (Hc ++ Ho z) K' := fun j z v K' hj hv hi ht hf => by
    subst hv
    refine (hy j z [.int .u8 (digN w.num (31 - j) : Nat)] (by unfold byteArgs; rw [List.getElem?_map, wbytes_at w hj, Option.map_some, ofNat_dig]) hi).frame ?_ ?_
    · rintro v H' (⟨rfl, x', _, rfl⟩ | ⟨rfl, x', _, rfl⟩) <;> exact hro z x'
    · rintro v H' (⟨rfl, x', h, rfl⟩ | ⟨rfl, x', h, rfl⟩)
      · exact ht x' h
      · exact hf x' h
  have yf : ∀ (x' : X), (I vs.length x' ∨ St x') → ∃ H'_1, List.Sublist H'_1 (dropM (Hc ++ Ho x')) ∧ ∃ z, (I vs.length z ∨ St z) ∧ H'_1 = Ho z := fun x' hst => by
    refine ⟨Ho x', ?_, x', hst, rfl⟩
    rw [dropM_eq (hmarks x')]
    exact List.sublist_append_right _ _
  have ha := w.ha; have hb := w.hb; have hc := w.hc; have hd := w.hd
  rw [← hvs]
  refine callsO (noG_ok _) Tryz.mix Tryz.pl66 Tryz.func66 rfl Tryz.ntmps66 Tryz.results66 rfl (by first | rfl | assumption) (Nat.le_of_ble_eq_true rfl) (by kernel_rfl) ?_
  simp only [push_cast, seval, reduceCtorEq, h1']
  refine loopO (noG_ok _) (pl := Tryz.pl66) Tryz.mix (X := Nat × X)
    (fun s => ([(0, .func (.yield l) #[] #[]), (1, .pointer (some ⟨b1, 0, none⟩)), (3, .int .i64 ((s.1 : Int) - 1))], Hc ++ Ho s.2))
    (fun s => s.1 ≤ 32 ∧ I (32 - s.1) s.2) (fun s => s.1) (32, x0) ?_ ?_ (by kernel_rfl) ?_
  · exact ⟨Nat.le_refl _, h0⟩
  · simp only [push_cast, seval, reduceCtorEq, hm0, subH_self]
    done
  · rintro ⟨s, z⟩ ⟨hi, hI⟩
    dsimp only at hi hI ⊢
    rcases Nat.eq_zero_or_pos s with rfl | hs
    · simp only [push_cast, seval, reduceCtorEq, h1']
      exact yf z (.inl (by rw [hvl]; exact hI))
    · obtain ⟨i, rfl⟩ : ∃ i, s = i + 1 := ⟨s - 1, by omega⟩
      have ej : ((i + 1 : Nat) : Int) - 1 = (i : Int) := by omega
      have i0 : (0 : Int) ≤ (i : Int) := by omega
      rw [ej]
      obtain ⟨p, hp⟩ : ∃ p, p = i / 8 := ⟨_, rfl⟩
      obtain ⟨r, hr⟩ : ∃ r, r = i % 8 := ⟨_, rfl⟩
      have ep : (i : Int).tdiv 8 = (p : Int) := by rw [hp]; rfl
      have er : (i : Int).tmod 8 = (r : Int) := by rw [hr]; rfl
      have hdg := dig_part w (i := p) (k := r) (by omega) (by omega)
      rw [show 8 * p + r = i by omega] at hdg
      have hoc : ∀ x, w.part p = x → x < 18446744073709551616 → IntKind.u8.wrap (shrI .u64 (x : Int) ((r : Int) * 8)) = ((digN w.num i : Nat) : Int) := fun x hx hl => by rw [octet hl (by omega), hdg, hx]
      have hj : 31 - (32 - (i + 1)) = i := by omega
      have rn : ¬ (r : Int) * 8 < 0 := by omega
      obtain rfl | rfl | rfl | rfl : p = 0 ∨ p = 1 ∨ p = 2 ∨ p = 3 := by omega
      · have ho := hoc w.a rfl ha
        simp only [push_cast, seval, reduceCtorEq, h1', i0, ep, er, rn, ho, wrap_i64' (show -9223372036854775808 ≤ (r : Int) * 8 ∧ (r : Int) * 8 ≤ 9223372036854775807 by omega)]
        refine yl (32 - (i + 1)) z _ _ (by omega) (by rw [hj]) hI (fun x' hx' => ?_) (fun x' hx' => ?_)
        · simp only [push_cast, seval, reduceCtorEq, wrap_i64' (show -9223372036854775808 ≤ (i : Int) - 1 ∧ (i : Int) - 1 ≤ 9223372036854775807 by omega)]
          exact ⟨(i, x'), ⟨by dsimp only; omega, by dsimp only; rw [show 32 - i = 32 - (i + 1) + 1 by omega]; exact hx'⟩, by dsimp only; omega, ⟨rfl, subH_self _, by simp only [hmarks]⟩⟩
        · simp only [push_cast, seval, reduceCtorEq]
          exact yf x' (.inr hx')
      · have ho := hoc w.b rfl hb
        simp only [push_cast, seval, reduceCtorEq, h1', i0, ep, er, rn, ho, wrap_i64' (show -9223372036854775808 ≤ (r : Int) * 8 ∧ (r : Int) * 8 ≤ 9223372036854775807 by omega)]
        refine yl (32 - (i + 1)) z _ _ (by omega) (by rw [hj]) hI (fun x' hx' => ?_) (fun x' hx' => ?_)
        · simp only [push_cast, seval, reduceCtorEq, wrap_i64' (show -9223372036854775808 ≤ (i : Int) - 1 ∧ (i : Int) - 1 ≤ 9223372036854775807 by omega)]
          exact ⟨(i, x'), ⟨by dsimp only; omega, by dsimp only; rw [show 32 - i = 32 - (i + 1) + 1 by omega]; exact hx'⟩, by dsimp only; omega, ⟨rfl, subH_self _, by simp only [hmarks]⟩⟩
        · simp only [push_cast, seval, reduceCtorEq]
          exact yf x' (.inr hx')
      · have ho := hoc w.c rfl hc
        simp only [push_cast, seval, reduceCtorEq, h1', i0, ep, er, rn, ho, wrap_i64' (show -9223372036854775808 ≤ (r : Int) * 8 ∧ (r : Int) * 8 ≤ 9223372036854775807 by omega)]
        refine yl (32 - (i + 1)) z _ _ (by omega) (by rw [hj]) hI (fun x' hx' => ?_) (fun x' hx' => ?_)
        · simp only [push_cast, seval, reduceCtorEq, wrap_i64' (show -9223372036854775808 ≤ (i : Int) - 1 ∧ (i : Int) - 1 ≤ 9223372036854775807 by omega)]
          exact ⟨(i, x'), ⟨by dsimp only; omega, by dsimp only; rw [show 32 - i = 32 - (i + 1) + 1 by omega]; exact hx'⟩, by dsimp only; omega, ⟨rfl, subH_self _, by simp only [hmarks]⟩⟩
        · simp only [push_cast, seval, reduceCtorEq]
          exact yf x' (.inr hx')
      · have ho := hoc w.d rfl hd
        simp only [push_cast, seval, reduceCtorEq, h1', i0, ep, er, rn, ho, wrap_i64' (show -9223372036854775808 ≤ (r : Int) * 8 ∧ (r : Int) * 8 ≤ 9223372036854775807 by omega)]
        refine yl (32 - (i + 1)) z _ _ (by omega) (by rw [hj]) hI (fun x' hx' => ?_) (fun x' hx' => ?_)
        · simp only [push_cast, seval, reduceCtorEq, wrap_i64' (show -9223372036854775808 ≤ (i : Int) - 1 ∧ (i : Int) - 1 ≤ 9223372036854775807 by omega)]
          exact ⟨(i, x'), ⟨by dsimp only; omega, by dsimp only; rw [show 32 - i = 32 - (i + 1) + 1 by omega]; exact hx'⟩, by dsimp only; omega, ⟨rfl, subH_self _, by simp only [hmarks]⟩⟩
        · simp only [push_cast, seval, reduceCtorEq]
          exact yf x' (.inr hx')
theorem wordBytes (w : W) : CallsV Tryz.prog 25 [w.v] [] (Ret0 (.string ⟨(wbytes w).toArray⟩)) := by
  refine callsO (noG_ok _) Tryz.mix Tryz.pl25 Tryz.func25 rfl Tryz.ntmps25 Tryz.results25 rfl (by first | rfl | assumption) (Nat.le_of_ble_eq_true rfl) (by kernel_rfl) ?_
  simp only [push_cast, seval, reduceCtorEq]
  intro b1
  refine (octets_ok w).use trivial ?_
  rintro r N ⟨b2, rfl, rfl⟩
  refine ⟨⟨trivial, trivial⟩, rfl, fun hf => ?_⟩
  simp only [push_cast, seval, reduceCtorEq] at hf
  simp only [push_cast, seval, reduceCtorEq, hf]
  have hdr : derE [⟨b2, 0, .ro, w.cells⟩] [⟨b2, 0, .ro, w.cells⟩] := by simp only [push_cast, seval, reduceCtorEq]
  refine (collect_ok (l := wbytes w) (octIter (Hc := [⟨b2, 0, .ro, w.cells⟩]) (w := w) (b1 := b2) (k1 := .ro) rfl (by simp [findE])) rfl (by simp) hdr (by rw [wbytes_len]; decide)).use (by simp only [push_cast, seval, reduceCtorEq, hf]) ?_
  rintro v N ho
  refine ⟨ho.wr.1, ho.wr.2, fun hf2 => ?_⟩
  have hw := wbytes_len w
  rw [hw] at ho
  obtain ⟨bz, cz, rfl, hcz, hzl, rfl⟩ := ho.pos (by decide)
  have hbo := bytesOf_byteV (wbytes w)
  have htk : List.take 32 (byteV (wbytes w)) = byteV (wbytes w) := List.take_of_length_le (by rw [byteV_len, hw]; exact Nat.le_refl _)
  have hbl : (byteV (wbytes w)).length = 32 := by rw [byteV_len, hw]
  simp only [push_cast, seval, reduceCtorEq, hf, strOfV, htk, hbl, hbo]
  done
theorem wordBytesG (args : List Value) (v : Value) (h : wbytesG args = some v) : CallsV Tryz.prog 25 args [] (Ret0 v) := by
  unfold wbytesG at h
  split at h
  · rename_i x
    cases hx : wOf x with
    | none => simp [hx] at h
    | some a =>
      simp only [hx, Option.bind_some, Option.some.injEq] at h
      rw [wOf_some hx, ← h]
      exact wordBytes a
  · cases h
end Go.Proofs.YtolmipnaheifcaaGreatDoor
set_option linter.unusedSimpArgs false
set_option linter.unusedVariables false
namespace Go.Ev
def bs (l : List UInt8) : ByteArray := ⟨l.toArray⟩
theorem bs_of (b : ByteArray) : ∃ l, b = bs l := ⟨b.data.toList, by unfold bs; simp⟩
theorem bs_size (l : List UInt8) : (bs l).size = l.length := by simp [bs, ByteArray.size]
theorem bs_data (l : List UInt8) : (bs l).data.toList = l := by simp [bs]
theorem bs_toList (l : List UInt8) : (bs l).toList = l := by unfold bs; exact ByteArray.toList_mk l
theorem bs_extract (l : List UInt8) (i j : Nat) : (bs l).extract i j = bs ((l.drop i).take (j - i)) := ByteArray.extract_mk l i j
theorem bs_append (l m : List UInt8) : bs l ++ bs m = bs (l ++ m) := by
  have : (bs l ++ bs m).data = (bs (l ++ m)).data := by rw [ByteArray.data_append]; simp [bs]
  exact congrArg ByteArray.mk this
theorem bs_mk (l : List UInt8) : ({ data := l.toArray } : ByteArray) = bs l := rfl
attribute [push_cast] bs_size bs_data bs_toList bs_extract bs_append
end Go.Ev
namespace Go.Proofs.YtolmipnaheifcaaGreatDoor
open Go Go.Ev Go.Proofs
set_option maxRecDepth 100000
set_option maxHeartbeats 4000000
end Go.Proofs.YtolmipnaheifcaaGreatDoor
set_option linter.unusedSimpArgs false
set_option linter.unusedVariables false
namespace Go.Ev
inductive It where
  | mk (list : Bool) (bytes : List UInt8) (kids : List It)
def It.list : It → Bool | .mk l _ _ => l
def It.bytes : It → List UInt8 | .mk _ b _ => b
def It.kids : It → List It | .mk _ _ k => k
theorem It.ind {p : It → Prop} (h : ∀ x : It, (∀ k ∈ x.kids, p k) → p x) (x : It) : p x := h x fun k hk => It.ind h k
termination_by SizeOf.sizeOf x
decreasing_by
  cases x with
  | mk l b ks =>
    have := List.sizeOf_lt_of_mem (show k ∈ ks from hk)
    simp only [It.mk.sizeOf_spec]
    omega
noncomputable def numL (w : W) : List UInt8 := (wbytes w).dropWhile fun b => b == 0
noncomputable def headL (kind n : Nat) : List UInt8 :=
  if n ≤ 55 then [UInt8.ofNat (kind + n)] else UInt8.ofNat (kind + 55 + (numL (W.ofInt (n : Int))).length) :: numL (W.ofInt (n : Int))
noncomputable def textL (b : List UInt8) : List UInt8 :=
  match b with
  | [c] => if c.toNat < 128 then [c] else headL 128 1 ++ [c]
  | b => headL 128 b.length ++ b
mutual
noncomputable def encL : It → List UInt8
  | .mk true _ ks => headL 192 (encLs ks).length ++ encLs ks
  | .mk false b _ => textL b
noncomputable def encLs : List It → List UInt8
  | [] => []
  | k :: r => encL k ++ encLs r
end
theorem encLs_flat : ∀ ks : List It, encLs ks = (ks.map encL).flatten
  | [] => by simp [encLs]
  | k :: r => by rw [encLs, encLs_flat r]; simp
mutual
def allI : It → Nat → List (Nat × It)
  | .mk l b ks, d => (d, .mk l b ks) :: (if 16 < d then [] else allIs ks (d + 1))
def allIs : List It → Nat → List (Nat × It)
  | [], _ => []
  | k :: r, d => allI k d ++ allIs r d
end
def wfI (y : It) : Bool := if y.list then y.bytes.isEmpty else y.kids.isEmpty
def rightI (x : It) : Bool := decide ((allI x 1).length ≤ 5000) && (allI x 1).all fun p => decide (p.1 ≤ 16) && wfI p.2
inductive Iv where
  | mk (list : Bool) (bytes : List UInt8) (sv : Value) (kids : List Iv)
def Iv.list : Iv → Bool | .mk l _ _ _ => l
def Iv.bytes : Iv → List UInt8 | .mk _ b _ _ => b
def Iv.sv : Iv → Value | .mk _ _ s _ => s
def Iv.kids : Iv → List Iv | .mk _ _ _ k => k
theorem Iv.ind {p : Iv → Prop} (h : ∀ x : Iv, (∀ k ∈ x.kids, p k) → p x) (x : Iv) : p x := h x fun k hk => Iv.ind h k
termination_by SizeOf.sizeOf x
decreasing_by
  cases x with
  | mk l b s ks =>
    have := List.sizeOf_lt_of_mem (show k ∈ ks from hk)
    simp only [Iv.mk.sizeOf_spec]
    omega
mutual
def Iv.it : Iv → It
  | .mk l b _ ks => .mk l b (Iv.its ks)
def Iv.its : List Iv → List It
  | [] => []
  | k :: r => k.it :: Iv.its r
end
theorem Iv.its_map : ∀ ks : List Iv, Iv.its ks = ks.map Iv.it
  | [] => rfl
  | k :: r => by rw [Iv.its, Iv.its_map r]; rfl
theorem Iv.it_list (x : Iv) : x.it.list = x.list := by cases x; simp only [Iv.it]; rfl
theorem Iv.it_bytes (x : Iv) : x.it.bytes = x.bytes := by cases x; simp only [Iv.it]; rfl
theorem Iv.it_kids (x : Iv) : x.it.kids = x.kids.map Iv.it := by cases x; simp only [Iv.it]; exact Iv.its_map _
def Iv.cells (x : Iv) : List Value := [.bool x.list, .string (bs x.bytes), x.sv]
def Iv.v (x : Iv) : Value := .agg #[.bool x.list, .string (bs x.bytes), x.sv]
theorem Iv.len (x : Iv) : x.cells.length = 3 := rfl
mutual
def allV : Iv → Nat → List (Nat × Iv)
  | .mk l b s ks, d => (d, .mk l b s ks) :: (if 16 < d then [] else allVs ks (d + 1))
def allVs : List Iv → Nat → List (Nat × Iv)
  | [], _ => []
  | k :: r, d => allV k d ++ allVs r d
end
mutual
theorem allV_it : ∀ (x : Iv) (d : Nat), (allV x d).map (fun p => (p.1, p.2.it)) = allI x.it d
  | .mk l b s ks, d => by
    rw [allV, Iv.it, allI, List.map_cons]
    by_cases h : 16 < d
    · rw [if_pos h, if_pos h]; simp only [Iv.it]; rfl
    · rw [if_neg h, if_neg h, allVs_it ks (d + 1)]; simp only [Iv.it]
theorem allVs_it : ∀ (ks : List Iv) (d : Nat), (allVs ks d).map (fun p => (p.1, p.2.it)) = allIs (Iv.its ks) d
  | [], d => by rw [allVs, Iv.its, allIs]; rfl
  | k :: r, d => by rw [allVs, Iv.its, allIs, List.map_append, allV_it k d, allVs_it r d]
end
end Go.Ev
