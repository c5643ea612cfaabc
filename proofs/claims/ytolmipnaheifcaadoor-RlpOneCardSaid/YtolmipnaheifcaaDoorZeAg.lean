/- Texts of this claim, merged by program: Oc Od Rh Sa Sb We Sf Sg Sc Na Wf Wg Wh Si. -/
import Derived.Test.YtolmipnaheifcaaDoorZeAf
import Derived.Test.YtolmipnaheifcaaDoorZeAe
import Derived.LaidEql
import Derived.Stop.Asserts
import Derived.RowKitTokens
import Derived.Test.YtolmipnaheifcaaDoorRows
import Derived.MakeChecks
import Derived.LaidHandle
import Derived.Stop.Joined
import Derived.Lay
import Derived.Test.YtolmipnaheifcaaDoorZeAc
import Derived.Test.YtolmipnaheifcaaDoorZeAd
import Derived.Laws.Strings
import Derived.Laws.Strings2
import Derived.Lib.Repeat
set_option linter.unusedSimpArgs false
set_option linter.unusedVariables false
namespace Go.Proofs.YtolmipnaheifcaaDoor
open Go Go.Ev Go.Proofs Go.RowKit Go.Extern.Stop Go.Stop Go.Extern
set_option maxRecDepth 100000
set_option maxHeartbeats 4000000
theorem xAs_nil (t : Value) (w : World) : Calls Tryd.prog 26 #[.nilIface, t] w fun e w' => e = .returned (.bool false) ∧ w' = w := by
  go_enter Tryd.func26, Tryd.ntmps26
  go_wp2
  go_ret
  exact ⟨rfl, rfl⟩
theorem xValueOfFF (t : Addr) (w : World) : (ReflectliteValue.unpack (.iface 64 (.pointer (some t)))).run Tryd.prog w
    = .ok (.agg #[.pointer (some ⟨4, 64, none⟩), .pointer (some ⟨w.heap.size, 0, none⟩), .int .u64 150]) (w.alloc (.cells #[.pointer (some t)] 64)) := by kernel_rfl
theorem xTypeFF (a : Addr) (w : World) : (ReflectliteValue.methodAny (ReflectliteValue.valueError "reflectlite.Value.Type" 0) (fun t _ _ _ => ReflectliteType.toType t) #[.agg #[.pointer (some ⟨4, 64, none⟩), .pointer (some a), .int .u64 150]]).run Tryd.prog w
    = .ok (.iface 115 (.agg #[.pointer (some ⟨4, 64, none⟩)])) w := by kernel_rfl
theorem xMethodKind (h : Value) (w : World) : (Go.method 281 115 (.agg #[h]) "Kind").run Tryd.prog w = .ok (99, h) w := by kernel_rfl
theorem xKindFF (w : World) : ((ReflectliteType.abiMethod fun t => (fun a : Nat => Value.int IntKind.u8 (a : Int)) <$> Rtype.kind t) #[.pointer (some ⟨4, 64, none⟩)]).run Tryd.prog w = .ok (.int .u8 22) w := by kernel_rfl
theorem xKindF (w : World) : ((ReflectliteType.abiMethod fun t => (fun a : Nat => Value.int IntKind.u8 (a : Int)) <$> Rtype.kind t) #[.pointer (some ⟨4, 62, none⟩)]).run Tryd.prog w = .ok (.int .u8 22) w := by kernel_rfl
theorem xrlm (z : Sem Value) (f : TypeId → Addr → Nat → Nat → Sem Value) (v : Value) :
    ReflectliteValue.method z f #[v] = (do match ← ReflectliteValue.parts v with | none => z | some (t, a, fl) => f t a fl (fl % 32)) := rfl
theorem xPartsFF (a : Addr) (w : World) : (ReflectliteValue.parts (.agg #[.pointer (some ⟨4, 64, none⟩), .pointer (some a), .int .u64 150])).run Tryd.prog w = .ok (some (64, a, 150)) w := by kernel_rfl
theorem xIsNilFF (a p : Addr) (W : World) (ha : W.cell? a = some (.pointer (some p))) :
    (ReflectliteValue.method (ReflectliteValue.valueError "reflectlite.Value.IsNil" 0) ReflectliteValue.isNil #[.agg #[.pointer (some ⟨4, 64, none⟩), .pointer (some a), .int .u64 150]]).run Tryd.prog W = .ok (.bool false) W := by
  rw [xrlm]
  simp only [Sem.run_bind, xPartsFF, Result.andThen]
  simp [ReflectliteValue.isNil, loadVar, isAgg, underlying, Tryd.underlying64, ha, Result.andThen]
theorem xMethodElem (h : Value) (w : World) : (Go.method 281 115 (.agg #[h]) "Elem").run Tryd.prog w = .ok (109, .agg #[h]) w := by kernel_rfl
theorem xMethodImplements (h : Value) (w : World) : (Go.method 281 115 (.agg #[h]) "Implements").run Tryd.prog w = .ok (110, .agg #[h]) w := by kernel_rfl
theorem xMethodAssignableTo (h : Value) (w : World) : (Go.method 281 115 (.agg #[h]) "AssignableTo").run Tryd.prog w = .ok (107, .agg #[h]) w := by kernel_rfl
theorem xElemFF (w : World) : (ReflectliteType.method ReflectliteType.elem #[.agg #[.pointer (some ⟨4, 64, none⟩)]]).run Tryd.prog w = .ok (.iface 115 (.agg #[.pointer (some ⟨4, 62, none⟩)])) w := by kernel_rfl
theorem xImplementsF (w : World) : (ReflectliteType.relation "Implements" ReflectliteType.implements_ #[.agg #[.pointer (some ⟨4, 62, none⟩)], .iface 115 (.agg #[.pointer (some ⟨4, 56, none⟩)])]).run Tryd.prog w = .ok (.bool true) w := by kernel_rfl
theorem xTypeOfF (v : Value) (w : World) : (ReflectliteType.typeOf #[.iface 62 v]).run Tryd.prog w = .ok (.iface 115 (.agg #[.pointer (some ⟨4, 62, none⟩)])) w := by kernel_rfl
theorem xAssignableF (w : World) : (ReflectliteType.relation "AssignableTo" ReflectliteType.assignableTo #[.agg #[.pointer (some ⟨4, 62, none⟩)], .iface 115 (.agg #[.pointer (some ⟨4, 62, none⟩)])]).run Tryd.prog w = .ok (.bool true) w := by kernel_rfl
theorem xValueOfF (e : Addr) (w : World) : (ReflectliteValue.unpack (.iface 62 (.pointer (some e)))).run Tryd.prog w
    = .ok (.agg #[.pointer (some ⟨4, 62, none⟩), .pointer (some ⟨w.heap.size, 0, none⟩), .int .u64 150]) (w.alloc (.cells #[.pointer (some e)] 62)) := by kernel_rfl
theorem xElemOfFF (w : World) : (Rtype.elem? 64).run Tryd.prog w = .ok (some 62) w := by kernel_rfl
theorem xMkF (p : Addr) (w : World) : (ReflectliteValue.mk 62 p ReflectliteValue.flagAddr).run Tryd.prog w = .ok (.agg #[.pointer (some ⟨4, 62, none⟩), .pointer (some p), .int .u64 406]) w := by kernel_rfl
theorem xElemVFF (a p : Addr) (W : World) (ha : W.cell? a = some (.pointer (some p))) :
    (ReflectliteValue.method (ReflectliteValue.valueError "reflectlite.Value.Elem" 0) ReflectliteValue.elem #[.agg #[.pointer (some ⟨4, 64, none⟩), .pointer (some a), .int .u64 150]]).run Tryd.prog W
      = .ok (.agg #[.pointer (some ⟨4, 62, none⟩), .pointer (some p), .int .u64 406]) W := by
  rw [xrlm]
  simp only [Sem.run_bind, xPartsFF, Result.andThen]
  simp [ReflectliteValue.elem, loadVar, isAgg, underlying, Tryd.underlying64, ha, Result.andThen, xElemOfFF, xMkF]
theorem xrls (v x : Value) : ReflectliteValue.set #[v, x] = (do
    let (some (dst, a, fl), some (src, b, _)) := (← ReflectliteValue.parts v, ← ReflectliteValue.parts x)
      | unsupported (.noEntry "extern/(internal/reflectlite.Value).Set.zeroValue")
    if fl / ReflectliteValue.flagAddr % 2 == 0 then unsupported (.noEntry "extern/(internal/reflectlite.Value).Set.unaddressable")
    let val ← loadVar src b
    if ← Rtype.directlyAssignable dst src then storeVar dst a val
    else if ← Rtype.implements dst src then
      if (← Rtype.kind src) == 20 then
        match val with
        | .nilIface => unsupported (.noEntry "extern/reflectlite: a nil value of one interface type handed on as a value of another")
        | _ => storeVar dst a val
      else storeVar dst a (.iface src val)
    else panicString ("reflectlite.Set: value of type " ++ (← Rtype.spelt src) ++ " is not assignable to type " ++ (← Rtype.spelt dst))
    pure (.tuple #[])) := rfl
theorem xPartsFa (a : Addr) (w : World) : (ReflectliteValue.parts (.agg #[.pointer (some ⟨4, 62, none⟩), .pointer (some a), .int .u64 406])).run Tryd.prog w = .ok (some (62, a, 406)) w := by kernel_rfl
theorem xPartsF (a : Addr) (w : World) : (ReflectliteValue.parts (.agg #[.pointer (some ⟨4, 62, none⟩), .pointer (some a), .int .u64 150])).run Tryd.prog w = .ok (some (62, a, 150)) w := by kernel_rfl
theorem xDirectF (w : World) : (Rtype.directlyAssignable 62 62).run Tryd.prog w = .ok true w := by kernel_rfl
theorem xSetF (ta b e : Addr) (old : Value) (W : World) (hb : W.cell? b = some (.pointer (some e))) (ht : W.cell? ta = some old) (hf : W.frozen? ta = false) :
    (ReflectliteValue.set #[.agg #[.pointer (some ⟨4, 62, none⟩), .pointer (some ta), .int .u64 406], .agg #[.pointer (some ⟨4, 62, none⟩), .pointer (some b), .int .u64 150]]).run Tryd.prog W
      = .ok (.tuple #[]) (W.setCell ta (.pointer (some e))) := by
  rw [xrls]
  simp only [Sem.run_bind, xPartsFa, xPartsF, Result.andThen]
  simp [ReflectliteValue.flagAddr, loadVar, isAgg, underlying, Tryd.underlying62, hb, Result.andThen, xDirectF, storeVar, Value.cells, storeCells, Addr.add]
  rw [run_store Tryd.prog W ta _ _ (by rfl)]
  simp [ht, hf]
theorem xAs_hit (e t : Addr) (old : Value) (w : World) (hg : w.cell? ⟨0, 0, none⟩ = some (.iface 115 (.agg #[.pointer (some ⟨4, 56, none⟩)]))) (ht0 : w.cell? t = some old) (hf0 : w.frozen? t = false) :
    Calls Tryd.prog 26 #[.iface 62 (.pointer (some e)), .iface 64 (.pointer (some t))] w fun ev w' => ev = .returned (.bool true) ∧ w' = ((((w.alloc (.cells #[.pointer (some t)] 64)).alloc (.cells #[.pointer (some ⟨4, 64, none⟩), .pointer (some ⟨w.heap.size, 0, none⟩), .int .u64 150] 82)).alloc (.cells #[.pointer (some ⟨4, 64, none⟩), .pointer (some ⟨w.heap.size, 0, none⟩), .int .u64 150] 82)).alloc (.cells #[.pointer (some e)] 62)).setCell t (.pointer (some e)) := by
  have h6 := @run_callFunc_extern Tryd.prog 39 _ (fun args => ReflectliteValue.unpack (args.getD 0 (.tuple #[]))) Tryd.func39 (by kernel_rfl) (by kernel_rfl) (by kernel_rfl) (by kernel_rfl)
  have h7 := @run_callFunc_extern Tryd.prog 40 _ (ReflectliteValue.methodAny (ReflectliteValue.valueError "reflectlite.Value.Type" 0) (fun t _ _ _ => ReflectliteType.toType t)) Tryd.func40 (by kernel_rfl) (by kernel_rfl) (by kernel_rfl) (by kernel_rfl)
  have h8 := @run_callFunc_extern Tryd.prog 41 _ (ReflectliteValue.method (ReflectliteValue.valueError "reflectlite.Value.IsNil" 0) ReflectliteValue.isNil) Tryd.func41 (by kernel_rfl) (by kernel_rfl) (by kernel_rfl) (by kernel_rfl)
  have h27 := @run_callFunc_extern Tryd.prog 99 _ (ReflectliteType.abiMethod fun t => do pure (.int .u8 (← Rtype.kind t))) Tryd.func99 (by kernel_rfl) (by kernel_rfl) (by kernel_rfl) (by kernel_rfl)
  have h37 := @run_callFunc_extern Tryd.prog 109 _ (ReflectliteType.method ReflectliteType.elem) Tryd.func109 (by kernel_rfl) (by kernel_rfl) (by kernel_rfl) (by kernel_rfl)
  have h38 := @run_callFunc_extern Tryd.prog 110 _ (ReflectliteType.relation "Implements" ReflectliteType.implements_) Tryd.func110 (by kernel_rfl) (by kernel_rfl) (by kernel_rfl) (by kernel_rfl)
  have h10 := @run_callFunc_extern Tryd.prog 60 _ ReflectliteType.typeOf Tryd.func60 (by kernel_rfl) (by kernel_rfl) (by kernel_rfl) (by kernel_rfl)
  have h35 := @run_callFunc_extern Tryd.prog 107 _ (ReflectliteType.relation "AssignableTo" ReflectliteType.assignableTo) Tryd.func107 (by kernel_rfl) (by kernel_rfl) (by kernel_rfl) (by kernel_rfl)
  have h11 := @run_callFunc_extern Tryd.prog 61 _ (ReflectliteValue.method (ReflectliteValue.valueError "reflectlite.Value.Elem" 0) ReflectliteValue.elem) Tryd.func61 (by kernel_rfl) (by kernel_rfl) (by kernel_rfl) (by kernel_rfl)
  have h12 := @run_callFunc_extern Tryd.prog 62 _ ReflectliteValue.set Tryd.func62 (by kernel_rfl) (by kernel_rfl) (by kernel_rfl) (by kernel_rfl)
  have tO := xTypeOfF
  have mA := xMethodAssignableTo
  have a25 := xAssignableF
  have v25 := xValueOfF
  have f6 := xValueOfFF
  have f7 := xTypeFF
  have mK := xMethodKind
  have mE := xMethodElem
  have mI := xMethodImplements
  have k27 := xKindFF
  have k25 := xKindF
  have e27 := xElemFF
  have i25 := xImplementsF
  have n8 := xIsNilFF ⟨w.heap.size, 0, none⟩ t ((w.alloc (.cells #[.pointer (some t)] 64)).alloc (.cells #[.pointer (some ⟨4, 64, none⟩), .pointer (some ⟨w.heap.size, 0, none⟩), .int .u64 150] 82)) (by simp)
  have hlt : 0 < w.heap.size := by
    rcases Nat.eq_zero_or_pos w.heap.size with h0 | h
    · simp [World.cell?, h0] at hg
    · exact h
  have hg2 : ((w.alloc (.cells #[.pointer (some t)] 64)).alloc (.cells #[.pointer (some ⟨4, 64, none⟩), .pointer (some ⟨w.heap.size, 0, none⟩), .int .u64 150] 82)).cell? ⟨0, 0, none⟩ = some (.iface 115 (.agg #[.pointer (some ⟨4, 56, none⟩)])) := by
    rw [World.cell?_alloc_lt _ _ ⟨0, 0, none⟩ (by simp), World.cell?_alloc_lt _ _ ⟨0, 0, none⟩ hlt]; exact hg
  have htl : t.block < w.heap.size := by
    rcases Nat.lt_or_ge t.block w.heap.size with h | h
    · exact h
    · simp [World.cell?, Array.getElem?_eq_none h] at ht0
  have el := xElemVFF ⟨w.heap.size, 0, none⟩ t (((w.alloc (.cells #[.pointer (some t)] 64)).alloc (.cells #[.pointer (some ⟨4, 64, none⟩), .pointer (some ⟨w.heap.size, 0, none⟩), .int .u64 150] 82)).alloc (.cells #[.pointer (some ⟨4, 64, none⟩), .pointer (some ⟨w.heap.size, 0, none⟩), .int .u64 150] 82)) (by rw [World.cell?_alloc_lt _ _ ⟨w.heap.size, 0, none⟩ (by simp; omega)]; simp)
  have st := xSetF t ⟨w.heap.size + 1 + 1 + 1, 0, none⟩ e old ((((w.alloc (.cells #[.pointer (some t)] 64)).alloc (.cells #[.pointer (some ⟨4, 64, none⟩), .pointer (some ⟨w.heap.size, 0, none⟩), .int .u64 150] 82)).alloc (.cells #[.pointer (some ⟨4, 64, none⟩), .pointer (some ⟨w.heap.size, 0, none⟩), .int .u64 150] 82)).alloc (.cells #[.pointer (some e)] 62))
    (by rw [World.cell?_alloc_at _ _ _ _ (by simp)]; rfl)
    (by rw [World.cell?_alloc_lt _ _ t (by simp; omega), World.cell?_alloc_lt _ _ t (by simp; omega), World.cell?_alloc_lt _ _ t (by simp; omega), World.cell?_alloc_lt _ _ t htl]; exact ht0)
    (by rw [World.frozen?_alloc_old _ _ t (by simp; omega), World.frozen?_alloc_old _ _ t (by simp; omega), World.frozen?_alloc_old _ _ t (by simp; omega), World.frozen?_alloc_old _ _ t (Nat.ne_of_lt htl)]; exact hf0)
  go_enter Tryd.func26, Tryd.ntmps26
  go_wp2
  refine wp_loop_rounds 1 ?_
  rw [rounds_succ]
  go_wp2
  go_ret
  exact ⟨rfl, rfl⟩
end Go.Proofs.YtolmipnaheifcaaDoor
set_option linter.unusedSimpArgs false
set_option linter.unusedVariables false
namespace Go.Ev
theorem Turn.setCell (w : World) (b : Nat) (v : Value) : Turn b w (w.setCell ⟨b, 0, none⟩ v) :=
  ⟨rfl, rfl, rfl, by simp [World.setCell], fun k hk hne => by simp [World.setCell, Array.getElem?_modify, Ne.symm hne]⟩
theorem Sat.allocs {w0 w : World} {mu : Nat → Prop} {H : Hp} (h : Sat w0 mu H w) (cs : Array Value) (t : TypeId) : Sat w0 mu H (w.alloc (.cells cs t)) := by
  have := h.alloc (e := ⟨w.heap.size, 0, .cel t, cs.toList⟩) rfl (o := .cells cs t) (by
    unfold Ent.holds
    exact ⟨rfl, by simpa using World.alloc_heap_new w (.cells cs t)⟩)
  exact this.weak (List.sublist_cons_self _ _)
theorem Sat.setCel {w0 w : World} {mu : Nat → Prop} {H : Hp} {b : Nat} {t : TypeId} {old v : Value} (h : Sat w0 mu (⟨b, 0, .cel t, [old]⟩ :: H) w) : Sat w0 mu (⟨b, 0, .cel t, [v]⟩ :: H) (w.setCell ⟨b, 0, none⟩ v) := by
  have hh := h.ents _ (List.mem_cons_self ..)
  have := h.upd (Turn.setCell w b v) (e := ⟨b, 0, .cel t, [old]⟩) (by simp [findE]) trivial (cs := [v]) (by
    obtain ⟨-, hb⟩ := hh
    dsimp only at hb
    refine ⟨rfl, ?_⟩
    simp [World.setCell, Array.getElem?_modify, hb])
  simpa [updE] using this
end Go.Ev
namespace Go.Proofs.YtolmipnaheifcaaDoor
open Go Go.Ev Go.Proofs
set_option maxRecDepth 100000
set_option maxHeartbeats 4000000
def ErrR (M : Hp) : Prop := cellsAt M 0 0 1 = some [.iface 115 (.agg #[.pointer (some ⟨4, 56, none⟩)])]
theorem ErrR.congr {A B : Hp} (h : cellsAt A = cellsAt B) (hk : ErrR A) : ErrR B := by unfold ErrR at hk ⊢; rw [← h]; exact hk
theorem ErrR.ext {A B : Hp} (h : Ext A B) (hk : ErrR A) : ErrR B := h.keep _ _ _ _ hk
theorem errAs_nil {t : Value} {H : Hp} : CallsV Tryd.prog 26 [.nilIface, t] H (fun v H' => v = .bool false ∧ H' = H) := by
  refine ⟨enterO Tryd.func26 rfl rfl, fun w0 mu w hs => ?_⟩
  refine CallsIn.mono (callsIn_wide.2 (xAs_nil t w)) ?_
  rintro e w' ⟨rfl, rfl⟩
  exact ⟨_, _, rfl, ⟨rfl, rfl⟩, hs, rfl⟩
theorem errAs_hit {M : Hp} {bt : Nat} {e : Addr} {old : Value} (hk : ErrR M) (hm : marksOf M = []) :
    CallsV Tryd.prog 26 [.iface 62 (.pointer (some e)), .iface 64 (.pointer (some ⟨bt, 0, none⟩))] (⟨bt, 0, .cel 62, [old]⟩ :: M)
      (fun v H' => v = .bool true ∧ H' = [⟨bt, 0, .cel 62, [.pointer (some e)]⟩]) := by
  refine ⟨enterO Tryd.func26 rfl rfl, fun w0 mu w hs => ?_⟩
  have hM := hs.weak (List.sublist_cons_self _ M)
  have hg := (hM.cellsAt hk).2 0 _ rfl
  have hb := hs.ents _ (List.mem_cons_self ..)
  have ht0 := Ent.cell hb (k := 0) (v := old) rfl
  obtain ⟨-, hb2⟩ := hb
  dsimp only at hb2
  have hf0 : w.frozen? ⟨bt, 0, none⟩ = false := by simp [World.frozen?, hb2]
  refine CallsIn.mono (callsIn_wide.2 (xAs_hit e ⟨bt, 0, none⟩ old w hg ht0 hf0)) ?_
  rintro ev w' ⟨rfl, rfl⟩
  refine ⟨_, _, rfl, ⟨rfl, rfl⟩, ?_, by simp only [marksOf, hm]⟩
  exact ((((hs.weak (((List.nil_sublist M).cons_cons _))).allocs _ _).allocs _ _).allocs _ _ |>.allocs _ _).setCel
end Go.Proofs.YtolmipnaheifcaaDoor
set_option linter.unusedSimpArgs false
set_option linter.unusedVariables false
namespace Go.Proofs.YtolmipnaheifcaaDoor
open Go Go.Ev Go.Proofs Go.ChangeShapes Go.WideShapes Go.ChangeAt Go.RowKit
set_option maxRecDepth 100000
set_option maxHeartbeats 4000000
def errH : Value := .iface 115 (.agg #[.pointer (some ⟨4, 56, none⟩)])
noncomputable def handW0 (os : Os) : World :=
  let w0 := World.holding Tryd.prog os ⟨#[], #[], []⟩
  { w0 with heap := w0.heap.modify 0 fun
      | .cells _ t frozen => .cells #[errH] t frozen
      | o => o }
def noHand (laid : List (String × DataW Unit)) : List (String × DataW Unit) := laid.filter fun x => x.2.handleName?.isNone
noncomputable def handW (os : Os) (laid : List (String × DataW Unit)) : World := (handW0 os).layVars Tryd.prog (noHand laid)
theorem handW_os (os : Os) (laid : List (String × DataW Unit)) : (handW os laid).os = os := (World.layVars_os _ _ _).trans (by kernel_rfl)
theorem handW_met {os : Os} {laid : List (String × DataW Unit)} (args : Array Value) (hf : (handW0 os).layFits Tryd.prog (noHand laid) [] = true) (hi : (handW0 os).layIfaces Tryd.prog (noHand laid) (handW os laid) = true)
    (hh : (laid.filter fun x => x.2.handleName?.isSome).all (handleAtB Tryd.prog (handW os laid)) = true) : laidMetH Tryd.prog laid ((handW os laid).forCall (fun _ _ => 0) ⟨#[], args, []⟩).memory := by
  have e1 : ((noHand laid).filter fun x => ((noHand laid).map (·.1)).contains x.1) = noHand laid := List.filter_eq_self.2 fun x hx => List.contains_iff_mem.2 (List.mem_map.2 ⟨x, hx, rfl⟩)
  have e2 : ((noHand laid).filter fun x => !((noHand laid).map (·.1)).contains x.1) = [] := List.filter_eq_nil_iff.2 fun x hx => by rw [List.contains_iff_mem.2 (List.mem_map.2 ⟨x, hx, rfl⟩)]; simp
  have h : laidMet Tryd.prog (noHand laid) (handW os laid) := laidMet_layVars (w0 := handW0 os) ((noHand laid).map (·.1)) [] (by rw [e1]; rfl) (by rw [e1]; exact hf) (by rw [e1]; exact hi) (by rw [e2]; exact LaidIn.none)
  have h2 : laidMetH Tryd.prog laid (handW os laid) := laidMetH_of_parts h hh
  exact laidMetH.of_heap (by simp [World.memory, World.forCall, Input.heap]) h2
theorem errR_of {W : World} {laid : List (String × DataW Unit)} (h : laidMetH Tryd.prog laid W) (he : (laid.filter fun x => x.2.handleName?.isSome) = [("errors.errorType", Rows.laid_errors_errorType)]) : ErrR (roW W) := by
  unfold laidMetH at h
  rw [he] at h
  obtain ⟨-, h⟩ := h
  obtain ⟨name, u, ty, e1, e2, e3, e4, e5⟩ := h _ (List.mem_singleton.2 rfl)
  have en : name = [101, 114, 114, 111, 114] := (Option.some.inj e1).symm
  subst en
  have hrt : (Tryd.prog.cutTypes.find? (·.1 == "internal/reflectlite.rtype")).map (·.2) = some 115 := by kernel_rfl
  obtain rfl := Option.some.inj (hrt.symm.trans e2)
  have hsize : Tryd.prog.types.size = 281 - 100 := by kernel_rfl
  have hone : ((List.range (281 - 100)).filter fun t => Tryd.prog.rowNamed t [101, 114, 114, 111, 114]) = [56] := by kernel_rfl
  have hm : ty ∈ (List.range (281 - 100)).filter fun t => Tryd.prog.rowNamed t [101, 114, 114, 111, 114] := List.mem_filter.2 ⟨List.mem_range.2 (by rw [← hsize]; exact e3), e4⟩
  rw [hone] at hm
  obtain rfl := List.mem_singleton.1 hm
  have hh : typeHandle Tryd.prog 56 = .pointer (some ⟨4, 56, none⟩) := by kernel_rfl
  rw [hh] at e5
  have hg0 : Tryd.prog.globalNamed "errors.errorType" = some 0 := by kernel_rfl
  unfold World.var? at e5
  rw [hg0] at e5
  simp only [Option.bind_some] at e5
  unfold ErrR cellsAt
  cases ho : W.heap[0]? with
  | none => rw [ho] at e5; cases e5
  | some o =>
    have hlt : 0 < W.heap.size := (Array.getElem?_eq_some_iff.1 ho).1
    rw [ho] at e5
    cases o <;> first | cases e5 | skip
    rw [roW_find hlt]
    unfold blkE
    rw [ho]
    rfl
end Go.Proofs.YtolmipnaheifcaaDoor
set_option linter.unusedSimpArgs false
set_option linter.unusedVariables false
namespace Go.Ev
theorem remE_freshN {N : Hp} {e : Ent} (h : freshN N [e]) : remE (N ++ [e]) e.blk = N := by
  induction N with
  | nil => simp [remE]
  | cons x r ih =>
    have : ¬ e.blk = x.blk := h.1.2.1
    simp only [List.cons_append, remE, if_neg this]
    rw [ih h.2]
theorem updE_freshN {N : Hp} {e : Ent} (h : freshN N [e]) (cs : List Value) : updE (N ++ [e]) e.blk cs = N ++ [{ e with cells := cs }] := by
  induction N with
  | nil => simp [updE]
  | cons x r ih =>
    have : ¬ e.blk = x.blk := h.1.2.1
    simp only [List.cons_append, updE, if_neg this]
    rw [ih h.2]
theorem freshN_blk {N : Hp} {e e' : Ent} (hb : e.blk = e'.blk) (h : freshN N [e]) : freshN N [e'] := by
  induction N with
  | nil => trivial
  | cons x r ih =>
    obtain ⟨⟨h1, h2, _⟩, h3⟩ := h
    exact ⟨⟨hb ▸ h1, hb ▸ h2, trivial⟩, ih h3⟩
def idG : List Value → Option Value
  | [x] => some x
  | _ => none
attribute [push_cast] idG
theorem byteV_len (l : List UInt8) : (byteV l).length = l.length := by simp [byteV]
theorem byteV_one (l : List UInt8) : (byteV l).all oneC = true := by simp [byteV, oneC]
theorem byteV_app (l m : List UInt8) : byteV (l ++ m) = byteV l ++ byteV m := by simp [byteV]
end Go.Ev
namespace Go.Proofs.YtolmipnaheifcaaDoor
open Go Go.Ev Go.Proofs
set_option maxRecDepth 100000
set_option maxHeartbeats 4000000
theorem noEscape (args : List Value) (v : Value) (h : idG args = some v) : ExtV Tryd.prog 78 args v := by
  unfold idG at h
  split at h
  case h_2 => cases h
  cases h
  intro w
  rw [run_callFunc_extern Tryd.func78 (by kernel_rfl) (by kernel_rfl) (by kernel_rfl) (e := Extern.AbiNoEscape.same) (by kernel_rfl)]
  rw [Lib.run_noEscape]
  rfl
noncomputable def gS : Gam := (addG 78 idG noG)
attribute [push_cast] gS
theorem gS_ok : GamOk Tryd.prog gS := (addX_ok noEscape (noG_ok _))
theorem pk1 : ptrOk Tryd.prog 128 79 130 2 = true := by kernel_rfl
theorem pk2 : ptrOk Tryd.prog 79 128 130 2 = true := by kernel_rfl
theorem pk3 : (Tryd.prog.info? 130).isSome = true := by kernel_rfl
theorem pk4 : usOk Tryd.prog 141 5 = true := by kernel_rfl
attribute [push_cast] pk1 pk2 pk3 pk4
theorem copyCheck_ok (b : Nat) (p v : Value) (hp : p = .pointer none ∨ p = .pointer (some ⟨b, 0, none⟩)) : CallsV Tryd.prog 75 [.pointer (some ⟨b, 0, none⟩)] [⟨b, 0, .cel 130, [p, v]⟩]
    (fun r N => r = .tuple #[] ∧ N = [⟨b, 0, .cel 130, [.pointer (some ⟨b, 0, none⟩), v]⟩]) := by
  rcases hp with rfl | rfl
  · refine callsO gS_ok Tryd.mix Tryd.pl75 Tryd.func75 rfl Tryd.ntmps75 Tryd.results75 rfl (by first | rfl | assumption) (Nat.le_of_ble_eq_true rfl) (by kernel_rfl) ?_
    simp only [push_cast, seval, reduceCtorEq]
    exact ⟨_, List.Sublist.refl _, rfl⟩
  · refine callsO gS_ok Tryd.mix Tryd.pl75 Tryd.func75 rfl Tryd.ntmps75 Tryd.results75 rfl (by first | rfl | assumption) (Nat.le_of_ble_eq_true rfl) (by kernel_rfl) ?_
    simp only [push_cast, seval, reduceCtorEq]
    exact ⟨_, List.Sublist.refl _, rfl⟩
theorem write_ok (b : Nat) (p v : Value) (hp : p = .pointer none ∨ p = .pointer (some ⟨b, 0, none⟩)) (l : List UInt8) (Nv : Hp) (ho : OutC 5 1 (byteV l) l.length v Nv) (hf : freshN Nv [⟨b, 0, .cel 130, [p, v]⟩]) (s : ByteArray) (hlen : l.length + s.size ≤ 140737488355328) :
    CallsV Tryd.prog 63 [.pointer (some ⟨b, 0, none⟩), .string s] (Nv ++ [⟨b, 0, .cel 130, [p, v]⟩])
    (fun r N => r = .tuple #[.int .i64 s.size, .nilIface] ∧ ∃ v' N', OutC 5 1 (byteV (l ++ s.data.toList)) (l ++ s.data.toList).length v' N' ∧ freshN N' [⟨b, 0, .cel 130, [.pointer (some ⟨b, 0, none⟩), v']⟩] ∧ N = N' ++ [⟨b, 0, .cel 130, [.pointer (some ⟨b, 0, none⟩), v']⟩]) := by
  obtain ⟨pa, ca, rfl⟩ := ho.slice
  have fb : findE (Nv ++ [⟨b, 0, .cel 130, [p, .slice pa l.length ca]⟩]) b = some ⟨b, 0, .cel 130, [p, .slice pa l.length ca]⟩ := by
    rw [findE_freshN hf (b := b) (e := ⟨b, 0, .cel 130, [p, .slice pa l.length ca]⟩) (by simp only [push_cast, seval, reduceCtorEq])]; simp only [push_cast, seval, reduceCtorEq]
  have hm : marksOf (Nv ++ [⟨b, 0, .cel 130, [p, .slice pa l.length ca]⟩]) = [] := by rw [marks_append, ho.wr.2]; rfl
  have hsz : s.data.toList.length = s.size := by rw [Array.length_toList]; rfl
  refine callsO gS_ok Tryd.mix Tryd.pl63 Tryd.func63 rfl Tryd.ntmps63 Tryd.results63 rfl (by first | rfl | assumption) (Nat.le_of_ble_eq_true rfl) (by kernel_rfl) ?_
  simp only [push_cast, seval, reduceCtorEq]
  refine CallsV.useM (copyCheck_ok b p (.slice pa l.length ca) hp) fb rfl trivial ?_
  rintro r N ⟨rfl, rfl⟩
  refine ⟨⟨trivial, trivial⟩, rfl, fun hf' => ?_⟩
  rw [show remE (Nv ++ [⟨b, 0, .cel 130, [p, .slice pa l.length ca]⟩]) b = Nv from remE_freshN hf] at hf' ⊢
  simp only [push_cast, seval, reduceCtorEq]
  rw [show (⟨b, 0, .cel 130, [.pointer (some ⟨b, 0, none⟩), .slice pa l.length ca]⟩ :: Nv : Hp) = ⟨b, 0, .cel 130, [.pointer (some ⟨b, 0, none⟩), .slice pa l.length ca]⟩ :: (Nv ++ []) by rw [List.append_nil]]
  refine append_out1 (e := 5) (sz := 1) (by_ := 1) (n := l.length) (m := s.size) (ys := byteV s.data.toList) ho (by rw [List.append_nil]; exact hf'.1) (by simp only [push_cast, seval, reduceCtorEq]) (by simp only [push_cast, seval, reduceCtorEq]) (by rw [byteV_len, hsz, Nat.mul_one]) (byteV_one _) (by unfold two47; omega) fun v' N' ho' hf2 => ?_
  obtain ⟨pb, cb, rfl⟩ := ho'.slice
  have fb' : findE (N' ++ [⟨b, 0, .cel 130, [.pointer (some ⟨b, 0, none⟩), .slice pa l.length ca]⟩]) b = some ⟨b, 0, .cel 130, [.pointer (some ⟨b, 0, none⟩), .slice pa l.length ca]⟩ := by
    rw [findE_freshN hf2 (b := b) (e := ⟨b, 0, .cel 130, [.pointer (some ⟨b, 0, none⟩), .slice pa l.length ca]⟩) (by simp only [push_cast, seval, reduceCtorEq])]; simp only [push_cast, seval, reduceCtorEq]
  have ub : ∀ cs, updE (N' ++ [⟨b, 0, .cel 130, [.pointer (some ⟨b, 0, none⟩), .slice pa l.length ca]⟩]) b cs = N' ++ [⟨b, 0, .cel 130, cs⟩] := fun cs => updE_freshN hf2 cs
  have hm2 : marksOf (N' ++ [⟨b, 0, .cel 130, [.pointer (some ⟨b, 0, none⟩), .slice pb (l.length + s.size) cb]⟩]) = [] := by rw [marks_append, ho'.wr.2]; rfl
  simp only [push_cast, seval, reduceCtorEq, fb', ub]
  refine ⟨N' ++ [⟨b, 0, .cel 130, [.pointer (some ⟨b, 0, none⟩), .slice pb (l.length + s.size) cb]⟩], ?_, .slice pb (l.length + s.size) cb, N', ?_, freshN_blk (by rfl) hf2, rfl⟩
  · rw [dropM_eq hm2]; exact List.Sublist.refl _
  · rw [byteV_app]; simp only [List.length_append, hsz]; exact ho'
def plStr : Plans := fun i => if i = 1 then [(0, 0), (1, 0), (2, 0), (3, 0), (5, 0), (6, 0), (7, 0), (8, 0), (9, 0), (4, 2), (10, 1), (11, 0)] else []
attribute [push_cast] plStr
theorem string_ok (b : Nat) (p v : Value) (l : List UInt8) (hl : l.length < 9223372036854775807) (Nv : Hp) (ho : OutC 5 1 (byteV l) l.length v Nv) (hf : freshN Nv [⟨b, 0, .cel 130, [p, v]⟩]) :
    CallsV Tryd.prog 64 [.pointer (some ⟨b, 0, none⟩)] (Nv ++ [⟨b, 0, .cel 130, [p, v]⟩]) (fun r N => r = .string ⟨l.toArray⟩ ∧ N = []) := by
  rcases ho with ⟨h0, h1, rfl, rfl⟩ | ⟨g, c, h0, rfl, hc, hcl, rfl⟩
  · obtain rfl : l = [] := List.eq_nil_of_length_eq_zero h0
    refine callsO gS_ok Tryd.mix plStr Tryd.func64 rfl Tryd.ntmps64 Tryd.results64 rfl (by first | rfl | assumption) (Nat.le_of_ble_eq_true rfl) (by kernel_rfl) ?_
    simp only [push_cast, seval, reduceCtorEq]
    exact ⟨[], List.nil_sublist _, rfl, rfl⟩
  · simp only [push_cast, seval, reduceCtorEq] at hf
    have c0 : ¬ c = 0 := by omega
    have n0 : ¬ (l.length : Int) = 0 := by omega
    have n1 : (0 : Int) < (l.length : Int) := by omega
    have n2 : (l.length : Int) ≤ 9223372036854775807 := by omega
    have tk : List.take l.length (byteV l) = byteV l := List.take_of_length_le (by rw [byteV_len]; exact Nat.le_refl _)
    refine callsO gS_ok Tryd.mix plStr Tryd.func64 rfl Tryd.ntmps64 Tryd.results64 rfl (by first | rfl | assumption) (Nat.le_of_ble_eq_true rfl) (by kernel_rfl) ?_
    simp only [push_cast, seval, reduceCtorEq, hf, c0, n0, n1, n2, byteV_len, tk]
    exact ⟨[], List.nil_sublist _, rfl⟩
end Go.Proofs.YtolmipnaheifcaaDoor
set_option linter.unusedSimpArgs false
set_option linter.unusedVariables false
namespace Go.Ev
end Go.Ev
namespace Go.Proofs.YtolmipnaheifcaaDoor
open Go Go.Ev Go.Proofs
set_option maxRecDepth 100000
set_option maxHeartbeats 4000000
abbrev BldX := { s : Value × Value × Hp // allWr s.2.2 ∧ marksOf s.2.2 = [] }
def bldH (b : Nat) (s : BldX) : Hp := s.1.2.2 ++ [⟨b, 0, .cel 130, [s.1.1, s.1.2.1]⟩]
theorem bldH_wr (b : Nat) (s : BldX) : ∀ e ∈ bldH b s, e.wr := fun e he => by
  rcases List.mem_append.1 he with h | h
  · exact allWr_mem s.2.1 e h
  · rw [List.mem_singleton.1 h]; trivial
theorem bldH_marks (b : Nat) (s : BldX) : marksOf (bldH b s) = [] := by unfold bldH; rw [marks_append, s.2.2]; rfl
end Go.Proofs.YtolmipnaheifcaaDoor
set_option linter.unusedSimpArgs false
set_option linter.unusedVariables false
namespace Go.Ev
theorem OutC.pos {e s n : Nat} {cs : List Value} {v : Value} {N : Hp} (h : OutC e s cs n v N) (hn : 0 < n) : ∃ b c, v = .slice (some ⟨b, 0, none⟩) n c ∧ n ≤ c ∧ cs.length = n * s ∧ N = [⟨b, 0, .vec e s c, cs⟩] := by
  rcases h with ⟨rfl, _, _, _⟩ | ⟨b, c, _, h1, h2, h3, h4⟩
  · exact absurd hn (Nat.lt_irrefl 0)
  · exact ⟨b, c, h1, h2, h3, h4⟩
theorem subH_rot {e : Ent} : ∀ {Hc : Hp}, fresh e.blk Hc → subH (e :: Hc) (Hc ++ [e])
  | [], _ => by
    refine ⟨by simp [findE], ?_⟩
    exact trivial
  | x :: r, h => by
    have h1 : ¬ x.blk = e.blk := h.2.1
    refine ⟨by simp [findE, h1], ?_⟩
    have : remE (e :: x :: r) x.blk = e :: r := by simp [remE, h1]
    rw [this]
    exact subH_rot h.2.2
def zs (l : List Int) : List Value := l.map fun x => .int .i64 x
theorem zs_len (l : List Int) : (zs l).length = l.length := by simp [zs]
theorem zs_app (l m : List Int) : zs (l ++ m) = zs l ++ zs m := by simp [zs]
noncomputable def digN : Nat → Nat → Nat := hid fun n j => n / 256 ^ j % 256
theorem digN_eq (n j : Nat) : digN n j = n / 256 ^ j % 256 := by unfold digN; rw [hid_eq]
theorem digN_lt (n j : Nat) : digN n j < 256 := by rw [digN_eq]; omega
noncomputable def digs (n k : Nat) : List Int := (List.range k).map fun j => ((digN n j : Nat) : Int)
theorem digs_succ (n k : Nat) : digs n (k + 1) = digs n k ++ [((digN n k : Nat) : Int)] := by
  unfold digs; rw [List.range_succ, List.map_append]; rfl
theorem digs_len (n k : Nat) : (digs n k).length = k := by simp [digs]
def W.part (w : W) : Nat → Nat
  | 0 => w.a
  | 1 => w.b
  | 2 => w.c
  | _ => w.d
end Go.Ev
namespace Go.Ev
theorem digN_part {n p r j : Nat} (h : n / 256 ^ j = p + 18446744073709551616 * r) {k : Nat} (hk : k < 8) : digN n (j + k) = p / 256 ^ k % 256 := by
  rw [digN_eq, Nat.pow_add, ← Nat.div_div_eq_div_mul, h]
  obtain rfl | rfl | rfl | rfl | rfl | rfl | rfl | rfl : k = 0 ∨ k = 1 ∨ k = 2 ∨ k = 3 ∨ k = 4 ∨ k = 5 ∨ k = 6 ∨ k = 7 := by omega
  all_goals simp only [Nat.reducePow]; omega
theorem dig_part (w : W) {i k : Nat} (hi : i < 4) (hk : k < 8) : digN w.num (8 * i + k) = w.part i / 256 ^ k % 256 := by
  have := w.ha; have := w.hb; have := w.hc; have := w.hd
  obtain rfl | rfl | rfl | rfl : i = 0 ∨ i = 1 ∨ i = 2 ∨ i = 3 := by omega
  · exact digN_part (r := w.b + 18446744073709551616 * (w.c + 18446744073709551616 * w.d)) (by unfold W.num W.part; simp only [Nat.reducePow, Nat.reduceMul]; omega) hk
  · exact digN_part (r := w.c + 18446744073709551616 * w.d) (by unfold W.num W.part; simp only [Nat.reducePow, Nat.reduceMul]; omega) hk
  · exact digN_part (r := w.d) (by unfold W.num W.part; simp only [Nat.reducePow, Nat.reduceMul]; omega) hk
  · exact digN_part (r := 0) (by unfold W.num W.part; simp only [Nat.reducePow, Nat.reduceMul]; omega) hk
end Go.Ev
set_option linter.unusedSimpArgs false
set_option linter.unusedVariables false
namespace Go.Ev
theorem updE_left {N Y : Hp} {b : Nat} {e : Ent} (h : freshN N Y) (hf : findE Y b = some e) (cs : List Value) : updE (N ++ Y) b cs = N ++ updE Y b cs := by
  have hm : e ∈ Y ∧ e.blk = b := findE_mem hf
  induction N with
  | nil => rfl
  | cons x r ih =>
    have : ¬ b = x.blk := by
      intro h0
      exact fresh_ne h.1 e hm.1 (hm.2.trans h0)
    simp only [List.cons_append, updE, if_neg this]
    rw [ih h.2]
def byteArgs (l : List UInt8) : List (List Value) := l.map fun x => [.int .u8 (x.toNat : Nat)]
theorem byteV_take (l : List UInt8) {i : Nat} (h : i < l.length) : byteV (l.take (i + 1)) = byteV (l.take i) ++ [.int .u8 (l[i].toNat : Nat)] := by
  unfold byteV
  rw [List.take_succ_eq_append_getElem h, List.map_append]; rfl
abbrev SeqX := { s : Value × Hp // allWr s.2 ∧ marksOf s.2 = [] }
noncomputable def wbytes : W → List UInt8 := hid fun w => (List.range 32).map fun j => UInt8.ofNat (digN w.num (31 - j))
theorem wbytes_eq (w : W) : wbytes w = (List.range 32).map fun j => UInt8.ofNat (digN w.num (31 - j)) := by unfold wbytes; rw [hid_eq]
theorem wbytes_len (w : W) : (wbytes w).length = 32 := by rw [wbytes_eq, List.length_map, List.length_range]
theorem wbytes_at (w : W) {j : Nat} (h : j < 32) : (wbytes w)[j]? = some (UInt8.ofNat (digN w.num (31 - j))) := by
  rw [wbytes_eq, List.getElem?_map, List.getElem?_range h]; rfl
theorem ofNat_dig (n j : Nat) : (UInt8.ofNat (digN n j)).toNat = digN n j := by
  have := digN_lt n j
  simp [Nat.mod_eq_of_lt this]
theorem octet {x r : Nat} (hx : x < 18446744073709551616) (hr : r < 8) : IntKind.u8.wrap (shrI .u64 (x : Int) ((r : Int) * 8)) = ((x / 256 ^ r % 256 : Nat) : Int) := by
  unfold shrI
  rw [show ((r : Int) * 8).toNat = 8 * r by omega, show min (8 * r) IntKind.u64.bits = 8 * r by show min (8 * r) 64 = 8 * r; omega, Int.fdiv_eq_ediv_of_nonneg _ (Int.pow_nonneg (by decide)), IntKind.wrap_u8]
  rw [show (2 : Int) ^ (8 * r) = ((256 ^ r : Nat) : Int) by rw [Int.natCast_pow, Int.pow_mul]; rfl]
  rw [Int.natCast_emod, Int.natCast_ediv]; rfl
end Go.Ev
namespace Go.Proofs.YtolmipnaheifcaaDoor
open Go Go.Ev Go.Proofs
set_option maxRecDepth 100000
set_option maxHeartbeats 4000000
def seqH (b : Nat) (s : SeqX) : Hp := s.1.2 ++ [⟨b, 0, .cel 48, [s.1.1]⟩]
theorem seqH_wr (b : Nat) (s : SeqX) : ∀ e ∈ seqH b s, e.wr := fun e he => by
  rcases List.mem_append.1 he with h | h
  · exact allWr_mem s.2.1 e h
  · rw [List.mem_singleton.1 h]; trivial
theorem seqH_marks (b : Nat) (s : SeqX) : marksOf (seqH b s) = [] := by unfold seqH; rw [marks_append, s.2.2]; rfl
theorem appendSeq_ok {gf : FuncId} {caps : List Value} {Hc : Hp} {l : List UInt8} (hit : IterV Tryd.prog gf caps Hc (byteArgs l)) (hmc : marksOf Hc = []) (hl : l.length ≤ 1099511627776) :
    CallsV Tryd.prog 70 [.slice none 0 0, .func (.func gf) #[] caps.toArray] Hc (OutC 5 1 (byteV l) l.length) := by
  refine callsO (noG_ok _) Tryd.mix Tryd.pl70 Tryd.func70 rfl Tryd.ntmps70 Tryd.results70 rfl (by first | rfl | assumption) (Nat.le_of_ble_eq_true rfl) (by kernel_rfl) ?_
  simp only [push_cast, seval, reduceCtorEq]
  intro b2 hb2
  refine rangeO (noG_ok _) (pl := Tryd.pl70) Tryd.mix (Hc := Hc) (Hm := []) hit rfl
    (X := SeqX) (seqH b2)
    (fun k s => OutC 5 1 (byteV (l.take k)) k s.1.1 s.1.2 ∧ freshN s.1.2 [⟨b2, 0, .cel 48, [s.1.1]⟩]) (fun _ _ => False) ⟨(.slice none 0 0, []), trivial, rfl⟩
    ?_ ?_ ?_ ?_ (by simp) (fun s => seqH_marks b2 s) (fun s u e he => .inl (seqH_wr b2 u e he)) ?_ (by kernel_rfl) (by kernel_rfl) (fun _ _ h => h.elim) ?_ ?_ (fun _ _ _ _ h => h.elim)
  · exact ⟨.nil _ _, trivial⟩
  · exact subH_rot hb2
  · show marksOf (_ :: Hc) = _
    simp [marksOf, hmc]
  · exact hmc
  · intro args ha
    obtain ⟨z, _, rfl⟩ := List.mem_map.1 ha
    rfl
  · rintro lo k s args hk hs
    obtain ⟨x, hj, rfl⟩ := Option.map_eq_some_iff.1 ((List.getElem?_map ..).symm.trans hk)
    obtain ⟨hk1, rfl⟩ := List.getElem?_eq_some_iff.1 hj
    obtain ⟨ho, hf⟩ := hs
    obtain ⟨⟨v, N⟩, hN⟩ := s
    dsimp only at ho hf
    have hmk := seqH_marks b2 ⟨(v, N), hN⟩
    obtain ⟨pa, ca, rfl⟩ := ho.slice
    have fb : findE (N ++ [⟨b2, 0, .cel 48, [.slice pa k ca]⟩]) b2 = some ⟨b2, 0, .cel 48, [.slice pa k ca]⟩ := by
      rw [findE_freshN hf (b := b2) (e := ⟨b2, 0, .cel 48, [.slice pa k ca]⟩) (by simp only [push_cast, seval, reduceCtorEq])]; simp only [push_cast, seval, reduceCtorEq]
    generalize hRK : (roundK _ _ _ k : Exit → Tm → Hp → Prop) = RK
    show oC _ _ _ _ _ _ _ (parT 13 _ _ [Value.int .u8 (l[k].toNat : Nat)]) _
    unfold seqH at hmk ⊢
    dsimp only at hmk ⊢
    simp only [push_cast, seval, reduceCtorEq, hmk, fb]
    intro b10 hb10
    refine append_out1 (e := 5) (sz := 1) (by_ := 1) (n := k) (m := 1) (ys := [.int .u8 (l[k].toNat : Nat)]) ho hb10 (by simp only [push_cast, seval, reduceCtorEq]) (by simp only [push_cast, seval, reduceCtorEq]) rfl rfl (by unfold two47; omega) fun v' N' ho' hf' => ?_
    obtain ⟨pb, cb, rfl⟩ := ho'.slice
    have h10 : ¬ b2 = b10 := (fresh_app hb10).2.1
    have fb' : findE (N' ++ [⟨b10, 0, .vec 5 1 1, [.int .u8 (l[k].toNat : Nat)]⟩, ⟨b2, 0, .cel 48, [.slice pa k ca]⟩]) b2 = some ⟨b2, 0, .cel 48, [.slice pa k ca]⟩ := by
      rw [findE_freshN hf' (b := b2) (e := ⟨b2, 0, .cel 48, [.slice pa k ca]⟩) (by simp only [push_cast, seval, reduceCtorEq, h10])]; simp only [push_cast, seval, reduceCtorEq, h10]
    have ub : ∀ cs, updE (N' ++ [⟨b10, 0, .vec 5 1 1, [.int .u8 (l[k].toNat : Nat)]⟩, ⟨b2, 0, .cel 48, [.slice pa k ca]⟩]) b2 cs = N' ++ [⟨b10, 0, .vec 5 1 1, [.int .u8 (l[k].toNat : Nat)]⟩, ⟨b2, 0, .cel 48, cs⟩] := fun cs => by
      rw [updE_left hf' (b := b2) (e := ⟨b2, 0, .cel 48, [.slice pa k ca]⟩) (by simp only [push_cast, seval, reduceCtorEq, h10])]; simp only [push_cast, seval, reduceCtorEq, h10]
    simp only [push_cast, seval, reduceCtorEq, fb', ub]
    rw [← hRK]
    refine ⟨⟨(.slice pb (k + 1) cb, N'), ho'.wr⟩, ⟨?_, freshN_blk (by rfl) (freshN_cons hf')⟩, ?_⟩
    · dsimp only
      rw [byteV_take l hk1]
      exact ho'
    · exact subH_pre (subH_cons (a := ⟨b10, 0, .vec 5 1 1, [.int .u8 (l[k].toNat : Nat)]⟩) (X := [⟨b2, 0, .cel 48, [.slice pb (k + 1) cb]⟩]) ⟨fun h => h10 h.symm, h10, trivial⟩) N'
  · rintro D s hfD hs
    obtain ⟨⟨v, N⟩, hN⟩ := s
    obtain ⟨ho, hf⟩ := hs
    dsimp only at ho hf
    unfold seqH at hfD ⊢
    dsimp only at hfD ⊢
    have hDb : ¬ b2 = D := (fresh_app (A := N) (B := [⟨b2, 0, .cel 48, [v]⟩]) hfD).2.1
    rw [show (byteArgs l).length = l.length by simp [byteArgs], List.take_length] at ho
    obtain ⟨pa, ca, rfl⟩ := ho.slice
    have fb : findE (N ++ [⟨b2, 0, .cel 48, [.slice pa l.length ca]⟩]) b2 = some ⟨b2, 0, .cel 48, [.slice pa l.length ca]⟩ := by
      rw [findE_freshN hf (b := b2) (e := ⟨b2, 0, .cel 48, [.slice pa l.length ca]⟩) (by simp only [push_cast, seval, reduceCtorEq])]; simp only [push_cast, seval, reduceCtorEq]
    have hm : marksOf (N ++ [⟨b2, 0, .cel 48, [.slice pa l.length ca]⟩]) = [] := by rw [marks_append, ho.wr.2]; rfl
    simp only [push_cast, seval, reduceCtorEq, hDb, fb]
    refine ⟨N, ?_, ho⟩
    rw [dropM_eq hm]
    exact List.sublist_append_left _ _
end Go.Proofs.YtolmipnaheifcaaDoor
set_option linter.unusedSimpArgs false
set_option linter.unusedVariables false
namespace Go.Ev
noncomputable def wbytesG : List Value → Option Value
  | [x] => (wOf x).bind fun a => some (.string ⟨(wbytes a).toArray⟩)
  | _ => none
attribute [push_cast] wbytesG
end Go.Ev
namespace Go.Proofs.YtolmipnaheifcaaDoor
open Go Go.Ev Go.Proofs
set_option maxRecDepth 100000
set_option maxHeartbeats 4000000
theorem collect_ok {gf : FuncId} {caps : List Value} {Hc : Hp} {l : List UInt8} (hit : IterV Tryd.prog gf caps Hc (byteArgs l)) (hmc : marksOf Hc = []) (hro : ∀ e ∈ Hc, e.kind = .ro) (hd : derE Hc Hc) (hl : l.length ≤ 1099511627776) :
    CallsV Tryd.prog 51 [.func (.func gf) #[] caps.toArray] Hc (OutC 5 1 (byteV l) l.length) := by
  refine callsO (noG_ok _) Tryd.mix Tryd.pl51 Tryd.func51 rfl Tryd.ntmps51 Tryd.results51 rfl (by first | rfl | assumption) (Nat.le_of_ble_eq_true rfl) (by kernel_rfl) ?_
  simp only [push_cast, seval, reduceCtorEq]
  refine (appendSeq_ok hit hmc hl).use hd fun v N ho => ⟨ho.wr.1, ho.wr.2, fun hf => ?_⟩
  simp only [push_cast, seval, reduceCtorEq]
  refine ⟨N, ?_, ho⟩
  rw [dropM_eq (by rw [marks_append, ho.wr.2, hmc]; rfl)]
  exact List.sublist_append_left _ _
theorem octets_ok (w : W) : CallsV Tryd.prog 52 [w.v] [] (fun r N => ∃ b1, r = .func (.func 71) #[] #[.pointer (some ⟨b1, 0, none⟩)] ∧ N = [⟨b1, 0, .cel 39, w.cells⟩]) := by
  refine callsO (noG_ok _) Tryd.mix Tryd.pl52 Tryd.func52 rfl Tryd.ntmps52 Tryd.results52 rfl (by first | rfl | assumption) (Nat.le_of_ble_eq_true rfl) (by kernel_rfl) ?_
  simp only [push_cast, seval, reduceCtorEq]
  intro b1
  exact ⟨_, List.Sublist.refl _, b1, rfl, rfl⟩
theorem octIter {Hc : Hp} {w : W} {b1 : Nat} {k1 : Kind} (hmc : marksOf Hc = []) (h1 : findE Hc b1 = some ⟨b1, 0, k1, w.cells⟩) :
    IterV Tryd.prog 71 [.pointer (some ⟨b1, 0, none⟩)] Hc (byteArgs (wbytes w)) := by
  refine ⟨enterO Tryd.func71 rfl rfl, fun X Ho I St l x0 hro hmk h0 hy => ?_⟩
  have hmarks : ∀ x, marksOf (Hc ++ Ho x) = [] := fun x => by rw [marks_append, hmc, hmk]; rfl
  have hm0 := hmarks x0
  have h1' := fun z => findE_left (B := Ho z) h1
  obtain ⟨vs, hvs⟩ : ∃ vs, vs = byteArgs (wbytes w) := ⟨_, rfl⟩
  have hvl : vs.length = 32 := by rw [hvs]; unfold byteArgs; rw [List.length_map, wbytes_len]
  have yl : ∀ (j : Nat) (z : X) (v : Value) (K' : Value → Hp → Prop), j < 32 → v = .int .u8 (digN w.num (31 - j) : Nat) → I j z → (∀ x', I (j + 1) x' → K' (.bool true) (Hc ++ Ho x')) → (∀ x', St x' → K' (.bool false) (Hc ++ Ho x')) → YieldV Tryd.prog l [v] (Hc ++ Ho z) K' := fun j z v K' hj hv hi ht hf => by
    subst hv
    refine (hy j z [.int .u8 (digN w.num (31 - j) : Nat)] (by unfold byteArgs; rw [List.getElem?_map, wbytes_at w hj, Option.map_some, ofNat_dig]) hi).frame ?_ ?_
    · rintro v H' (⟨rfl, x', _, rfl⟩ | ⟨rfl, x', _, rfl⟩) <;> exact hro z x'
    · rintro v H' (⟨rfl, x', h, rfl⟩ | ⟨rfl, x', h, rfl⟩)
      · exact ht x' h
      · exact hf x' h
  have yf : ∀ (x' : X), (I vs.length x' ∨ St x') → ∃ H'_1, List.Sublist H'_1 (dropM (Hc ++ Ho x')) ∧ ∃ z, (I vs.length z ∨ St z) ∧ H'_1 = Ho z := fun x' hst => by
    refine ⟨Ho x', ?_, x', hst, rfl⟩
    rw [dropM_eq (hmarks x')]
    exact List.sublist_append_right _ _
  have ha := w.ha; have hb := w.hb; have hc := w.hc; have hd := w.hd
  rw [← hvs]
  refine callsO (noG_ok _) Tryd.mix Tryd.pl71 Tryd.func71 rfl Tryd.ntmps71 Tryd.results71 rfl (by first | rfl | assumption) (Nat.le_of_ble_eq_true rfl) (by kernel_rfl) ?_
  simp only [push_cast, seval, reduceCtorEq, h1']
  refine loopO (noG_ok _) (pl := Tryd.pl71) Tryd.mix (X := Nat × X)
    (fun s => ([(0, .func (.yield l) #[] #[]), (1, .pointer (some ⟨b1, 0, none⟩)), (3, .int .i64 ((s.1 : Int) - 1))], Hc ++ Ho s.2))
    (fun s => s.1 ≤ 32 ∧ I (32 - s.1) s.2) (fun s => s.1) (32, x0) ?_ ?_ (by kernel_rfl) ?_
  · exact ⟨Nat.le_refl _, h0⟩
  · simp only [push_cast, seval, reduceCtorEq, hm0, subH_self]
    done
  · rintro ⟨s, z⟩ ⟨hi, hI⟩
    dsimp only at hi hI ⊢
    rcases Nat.eq_zero_or_pos s with rfl | hs
    · simp only [push_cast, seval, reduceCtorEq, h1']
      exact yf z (.inl (by rw [hvl]; exact hI))
    · obtain ⟨i, rfl⟩ : ∃ i, s = i + 1 := ⟨s - 1, by omega⟩
      have ej : ((i + 1 : Nat) : Int) - 1 = (i : Int) := by omega
      have i0 : (0 : Int) ≤ (i : Int) := by omega
      rw [ej]
      obtain ⟨p, hp⟩ : ∃ p, p = i / 8 := ⟨_, rfl⟩
      obtain ⟨r, hr⟩ : ∃ r, r = i % 8 := ⟨_, rfl⟩
      have ep : (i : Int).tdiv 8 = (p : Int) := by rw [hp]; rfl
      have er : (i : Int).tmod 8 = (r : Int) := by rw [hr]; rfl
      have hdg := dig_part w (i := p) (k := r) (by omega) (by omega)
      rw [show 8 * p + r = i by omega] at hdg
      have hoc : ∀ x, w.part p = x → x < 18446744073709551616 → IntKind.u8.wrap (shrI .u64 (x : Int) ((r : Int) * 8)) = ((digN w.num i : Nat) : Int) := fun x hx hl => by rw [octet hl (by omega), hdg, hx]
      have hj : 31 - (32 - (i + 1)) = i := by omega
      have rn : ¬ (r : Int) * 8 < 0 := by omega
      obtain rfl | rfl | rfl | rfl : p = 0 ∨ p = 1 ∨ p = 2 ∨ p = 3 := by omega
      · have ho := hoc w.a rfl ha
        simp only [push_cast, seval, reduceCtorEq, h1', i0, ep, er, rn, ho, wrap_i64' (show -9223372036854775808 ≤ (r : Int) * 8 ∧ (r : Int) * 8 ≤ 9223372036854775807 by omega)]
        refine yl (32 - (i + 1)) z _ _ (by omega) (by rw [hj]) hI (fun x' hx' => ?_) (fun x' hx' => ?_)
        · simp only [push_cast, seval, reduceCtorEq, wrap_i64' (show -9223372036854775808 ≤ (i : Int) - 1 ∧ (i : Int) - 1 ≤ 9223372036854775807 by omega)]
          exact ⟨(i, x'), ⟨by dsimp only; omega, by dsimp only; rw [show 32 - i = 32 - (i + 1) + 1 by omega]; exact hx'⟩, by dsimp only; omega, ⟨rfl, subH_self _, by simp only [hmarks]⟩⟩
        · simp only [push_cast, seval, reduceCtorEq]
          exact yf x' (.inr hx')
      · have ho := hoc w.b rfl hb
        simp only [push_cast, seval, reduceCtorEq, h1', i0, ep, er, rn, ho, wrap_i64' (show -9223372036854775808 ≤ (r : Int) * 8 ∧ (r : Int) * 8 ≤ 9223372036854775807 by omega)]
        refine yl (32 - (i + 1)) z _ _ (by omega) (by rw [hj]) hI (fun x' hx' => ?_) (fun x' hx' => ?_)
        · simp only [push_cast, seval, reduceCtorEq, wrap_i64' (show -9223372036854775808 ≤ (i : Int) - 1 ∧ (i : Int) - 1 ≤ 9223372036854775807 by omega)]
          exact ⟨(i, x'), ⟨by dsimp only; omega, by dsimp only; rw [show 32 - i = 32 - (i + 1) + 1 by omega]; exact hx'⟩, by dsimp only; omega, ⟨rfl, subH_self _, by simp only [hmarks]⟩⟩
        · simp only [push_cast, seval, reduceCtorEq]
          exact yf x' (.inr hx')
      · have ho := hoc w.c rfl hc
        simp only [push_cast, seval, reduceCtorEq, h1', i0, ep, er, rn, ho, wrap_i64' (show -9223372036854775808 ≤ (r : Int) * 8 ∧ (r : Int) * 8 ≤ 9223372036854775807 by omega)]
        refine yl (32 - (i + 1)) z _ _ (by omega) (by rw [hj]) hI (fun x' hx' => ?_) (fun x' hx' => ?_)
        · simp only [push_cast, seval, reduceCtorEq, wrap_i64' (show -9223372036854775808 ≤ (i : Int) - 1 ∧ (i : Int) - 1 ≤ 9223372036854775807 by omega)]
          exact ⟨(i, x'), ⟨by dsimp only; omega, by dsimp only; rw [show 32 - i = 32 - (i + 1) + 1 by omega]; exact hx'⟩, by dsimp only; omega, ⟨rfl, subH_self _, by simp only [hmarks]⟩⟩
        · simp only [push_cast, seval, reduceCtorEq]
          exact yf x' (.inr hx')
      · have ho := hoc w.d rfl hd
        simp only [push_cast, seval, reduceCtorEq, h1', i0, ep, er, rn, ho, wrap_i64' (show -9223372036854775808 ≤ (r : Int) * 8 ∧ (r : Int) * 8 ≤ 9223372036854775807 by omega)]
        refine yl (32 - (i + 1)) z _ _ (by omega) (by rw [hj]) hI (fun x' hx' => ?_) (fun x' hx' => ?_)
        · simp only [push_cast, seval, reduceCtorEq, wrap_i64' (show -9223372036854775808 ≤ (i : Int) - 1 ∧ (i : Int) - 1 ≤ 9223372036854775807 by omega)]
          exact ⟨(i, x'), ⟨by dsimp only; omega, by dsimp only; rw [show 32 - i = 32 - (i + 1) + 1 by omega]; exact hx'⟩, by dsimp only; omega, ⟨rfl, subH_self _, by simp only [hmarks]⟩⟩
        · simp only [push_cast, seval, reduceCtorEq]
          exact yf x' (.inr hx')
theorem wordBytes (w : W) : CallsV Tryd.prog 30 [w.v] [] (Ret0 (.string ⟨(wbytes w).toArray⟩)) := by
  refine callsO (noG_ok _) Tryd.mix Tryd.pl30 Tryd.func30 rfl Tryd.ntmps30 Tryd.results30 rfl (by first | rfl | assumption) (Nat.le_of_ble_eq_true rfl) (by kernel_rfl) ?_
  simp only [push_cast, seval, reduceCtorEq]
  intro b1
  refine (octets_ok w).use trivial ?_
  rintro r N ⟨b2, rfl, rfl⟩
  refine ⟨⟨trivial, trivial⟩, rfl, fun hf => ?_⟩
  simp only [push_cast, seval, reduceCtorEq] at hf
  simp only [push_cast, seval, reduceCtorEq, hf]
  have hdr : derE [⟨b2, 0, .ro, w.cells⟩] [⟨b2, 0, .ro, w.cells⟩] := by simp only [push_cast, seval, reduceCtorEq]
  refine (collect_ok (l := wbytes w) (octIter (Hc := [⟨b2, 0, .ro, w.cells⟩]) (w := w) (b1 := b2) (k1 := .ro) rfl (by simp [findE])) rfl (by simp) hdr (by rw [wbytes_len]; decide)).use (by simp only [push_cast, seval, reduceCtorEq, hf]) ?_
  rintro v N ho
  refine ⟨ho.wr.1, ho.wr.2, fun hf2 => ?_⟩
  have hw := wbytes_len w
  rw [hw] at ho
  obtain ⟨bz, cz, rfl, hcz, hzl, rfl⟩ := ho.pos (by decide)
  have hbo := bytesOf_byteV (wbytes w)
  have htk : List.take 32 (byteV (wbytes w)) = byteV (wbytes w) := List.take_of_length_le (by rw [byteV_len, hw]; exact Nat.le_refl _)
  have hbl : (byteV (wbytes w)).length = 32 := by rw [byteV_len, hw]
  simp only [push_cast, seval, reduceCtorEq, hf, strOfV, htk, hbl, hbo]
  done
theorem wordBytesG (args : List Value) (v : Value) (h : wbytesG args = some v) : CallsV Tryd.prog 30 args [] (Ret0 v) := by
  unfold wbytesG at h
  split at h
  · rename_i x
    cases hx : wOf x with
    | none => simp [hx] at h
    | some a =>
      simp only [hx, Option.bind_some, Option.some.injEq] at h
      rw [wOf_some hx, ← h]
      exact wordBytes a
  · cases h
end Go.Proofs.YtolmipnaheifcaaDoor
set_option linter.unusedSimpArgs false
set_option linter.unusedVariables false
namespace Go.Ev
def bs (l : List UInt8) : ByteArray := ⟨l.toArray⟩
theorem bs_of (b : ByteArray) : ∃ l, b = bs l := ⟨b.data.toList, by unfold bs; simp⟩
theorem bs_size (l : List UInt8) : (bs l).size = l.length := by simp [bs, ByteArray.size]
theorem bs_data (l : List UInt8) : (bs l).data.toList = l := by simp [bs]
theorem bs_toList (l : List UInt8) : (bs l).toList = l := by unfold bs; exact ByteArray.toList_mk l
theorem bs_extract (l : List UInt8) (i j : Nat) : (bs l).extract i j = bs ((l.drop i).take (j - i)) := ByteArray.extract_mk l i j
theorem bs_append (l m : List UInt8) : bs l ++ bs m = bs (l ++ m) := by
  have : (bs l ++ bs m).data = (bs (l ++ m)).data := by rw [ByteArray.data_append]; simp [bs]
  exact congrArg ByteArray.mk this
theorem bs_mk (l : List UInt8) : ({ data := l.toArray } : ByteArray) = bs l := rfl
attribute [push_cast] bs_size bs_data bs_toList bs_extract bs_append
end Go.Ev
namespace Go.Proofs.YtolmipnaheifcaaDoor
open Go Go.Ev Go.Proofs
set_option maxRecDepth 100000
set_option maxHeartbeats 4000000
end Go.Proofs.YtolmipnaheifcaaDoor
set_option linter.unusedSimpArgs false
set_option linter.unusedVariables false
namespace Go.Ev
inductive It where
  | mk (list : Bool) (bytes : List UInt8) (kids : List It)
def It.list : It → Bool | .mk l _ _ => l
def It.bytes : It → List UInt8 | .mk _ b _ => b
def It.kids : It → List It | .mk _ _ k => k
theorem It.ind {p : It → Prop} (h : ∀ x : It, (∀ k ∈ x.kids, p k) → p x) (x : It) : p x := h x fun k hk => It.ind h k
termination_by SizeOf.sizeOf x
decreasing_by
  cases x with
  | mk l b ks =>
    have := List.sizeOf_lt_of_mem (show k ∈ ks from hk)
    simp only [It.mk.sizeOf_spec]
    omega
noncomputable def numL (w : W) : List UInt8 := (wbytes w).dropWhile fun b => b == 0
noncomputable def headL (kind n : Nat) : List UInt8 :=
  if n ≤ 55 then [UInt8.ofNat (kind + n)] else UInt8.ofNat (kind + 55 + (numL (W.ofInt (n : Int))).length) :: numL (W.ofInt (n : Int))
noncomputable def textL (b : List UInt8) : List UInt8 :=
  match b with
  | [c] => if c.toNat < 128 then [c] else headL 128 1 ++ [c]
  | b => headL 128 b.length ++ b
mutual
noncomputable def encL : It → List UInt8
  | .mk true _ ks => headL 192 (encLs ks).length ++ encLs ks
  | .mk false b _ => textL b
noncomputable def encLs : List It → List UInt8
  | [] => []
  | k :: r => encL k ++ encLs r
end
theorem encLs_flat : ∀ ks : List It, encLs ks = (ks.map encL).flatten
  | [] => by simp [encLs]
  | k :: r => by rw [encLs, encLs_flat r]; simp
mutual
def allI : It → Nat → List (Nat × It)
  | .mk l b ks, d => (d, .mk l b ks) :: (if 16 < d then [] else allIs ks (d + 1))
def allIs : List It → Nat → List (Nat × It)
  | [], _ => []
  | k :: r, d => allI k d ++ allIs r d
end
def wfI (y : It) : Bool := if y.list then y.bytes.isEmpty else y.kids.isEmpty
def rightI (x : It) : Bool := decide ((allI x 1).length ≤ 5000) && (allI x 1).all fun p => decide (p.1 ≤ 16) && wfI p.2
inductive Iv where
  | mk (list : Bool) (bytes : List UInt8) (sv : Value) (kids : List Iv)
def Iv.list : Iv → Bool | .mk l _ _ _ => l
def Iv.bytes : Iv → List UInt8 | .mk _ b _ _ => b
def Iv.sv : Iv → Value | .mk _ _ s _ => s
def Iv.kids : Iv → List Iv | .mk _ _ _ k => k
theorem Iv.ind {p : Iv → Prop} (h : ∀ x : Iv, (∀ k ∈ x.kids, p k) → p x) (x : Iv) : p x := h x fun k hk => Iv.ind h k
termination_by SizeOf.sizeOf x
decreasing_by
  cases x with
  | mk l b s ks =>
    have := List.sizeOf_lt_of_mem (show k ∈ ks from hk)
    simp only [Iv.mk.sizeOf_spec]
    omega
mutual
def Iv.it : Iv → It
  | .mk l b _ ks => .mk l b (Iv.its ks)
def Iv.its : List Iv → List It
  | [] => []
  | k :: r => k.it :: Iv.its r
end
theorem Iv.its_map : ∀ ks : List Iv, Iv.its ks = ks.map Iv.it
  | [] => rfl
  | k :: r => by rw [Iv.its, Iv.its_map r]; rfl
theorem Iv.it_list (x : Iv) : x.it.list = x.list := by cases x; simp only [Iv.it]; rfl
theorem Iv.it_bytes (x : Iv) : x.it.bytes = x.bytes := by cases x; simp only [Iv.it]; rfl
theorem Iv.it_kids (x : Iv) : x.it.kids = x.kids.map Iv.it := by cases x; simp only [Iv.it]; exact Iv.its_map _
def Iv.cells (x : Iv) : List Value := [.bool x.list, .string (bs x.bytes), x.sv]
def Iv.v (x : Iv) : Value := .agg #[.bool x.list, .string (bs x.bytes), x.sv]
theorem Iv.len (x : Iv) : x.cells.length = 3 := rfl
mutual
def allV : Iv → Nat → List (Nat × Iv)
  | .mk l b s ks, d => (d, .mk l b s ks) :: (if 16 < d then [] else allVs ks (d + 1))
def allVs : List Iv → Nat → List (Nat × Iv)
  | [], _ => []
  | k :: r, d => allV k d ++ allVs r d
end
mutual
theorem allV_it : ∀ (x : Iv) (d : Nat), (allV x d).map (fun p => (p.1, p.2.it)) = allI x.it d
  | .mk l b s ks, d => by
    rw [allV, Iv.it, allI, List.map_cons]
    by_cases h : 16 < d
    · rw [if_pos h, if_pos h]; simp only [Iv.it]; rfl
    · rw [if_neg h, if_neg h, allVs_it ks (d + 1)]; simp only [Iv.it]
theorem allVs_it : ∀ (ks : List Iv) (d : Nat), (allVs ks d).map (fun p => (p.1, p.2.it)) = allIs (Iv.its ks) d
  | [], d => by rw [allVs, Iv.its, allIs]; rfl
  | k :: r, d => by rw [allVs, Iv.its, allIs, List.map_append, allV_it k d, allVs_it r d]
end
end Go.Ev
set_option linter.unusedSimpArgs false
set_option linter.unusedVariables false
namespace Go.Proofs.YtolmipnaheifcaaDoor
open Go Go.Ev Go.Proofs
set_option maxRecDepth 100000
set_option maxHeartbeats 4000000
theorem digits_ok (w : W) : CallsV Tryd.prog 56 [w.v] [] (OutC 3 1 (zs (digs w.num 32)) 32) := by
  refine callsO (noG_ok _) Tryd.mix Tryd.pl56 Tryd.func56 rfl Tryd.ntmps56 Tryd.results56 rfl (by first | rfl | assumption) (Nat.le_of_ble_eq_true rfl) (by kernel_rfl) ?_
  simp only [push_cast, seval, reduceCtorEq]
  intro b1
  refine loopO (noG_ok _) (pl := Tryd.pl56) Tryd.mix (X := Nat × Value × Hp)
    (fun s => ([(1, .pointer (some ⟨b1, 0, none⟩)), (3, s.2.1), (4, .int .i64 s.1)], s.2.2 ++ [⟨b1, 0, .cel 39, w.cells⟩]))
    (fun s => s.1 ≤ 4 ∧ OutC 3 1 (zs (digs w.num (8 * s.1))) (8 * s.1) s.2.1 s.2.2 ∧ freshN s.2.2 [⟨b1, 0, .cel 39, w.cells⟩]) (fun s => 4 - s.1) (0, .slice none 0 0, []) ?_ ?_ (by kernel_rfl) ?_
  · exact ⟨by decide, .nil _ _, trivial⟩
  · simp only [push_cast, seval, reduceCtorEq]
  · rintro ⟨i, vo, No⟩ ⟨hi, ho, hf⟩
    dsimp only at hi ho hf ⊢
    have fb : findE (No ++ [⟨b1, 0, .cel 39, w.cells⟩]) b1 = some ⟨b1, 0, .cel 39, w.cells⟩ := by
      rw [findE_freshN hf (b := b1) (e := ⟨b1, 0, .cel 39, w.cells⟩) (by simp only [push_cast, seval, reduceCtorEq])]; simp only [push_cast, seval, reduceCtorEq]
    obtain rfl | rfl | rfl | rfl | rfl : i = 0 ∨ i = 1 ∨ i = 2 ∨ i = 3 ∨ i = 4 := by omega
    · simp only [push_cast, seval, reduceCtorEq, fb]
      refine loopO (noG_ok _) (pl := Tryd.pl56) Tryd.mix (X := Nat × Nat × Value × Hp)
        (fun s => ([(1, .pointer (some ⟨b1, 0, none⟩)), (3, s.2.2.1), (4, .int .i64 0), (5, .int .u64 s.2.1), (6, .int .i64 s.1)], s.2.2.2 ++ [⟨b1, 0, .cel 39, w.cells⟩]))
        (fun s => s.1 ≤ 8 ∧ s.2.1 = w.a / 256 ^ s.1 ∧ OutC 3 1 (zs (digs w.num (s.1))) (s.1) s.2.2.1 s.2.2.2 ∧ freshN s.2.2.2 [⟨b1, 0, .cel 39, w.cells⟩]) (fun s => 8 - s.1) (0, w.a, vo, No) ?_ ?_ (by kernel_rfl) ?_
      · exact ⟨by dsimp only; omega, by simp, ho, hf⟩
      · simp only [push_cast, seval, reduceCtorEq]
        exact subH_self _
      · rintro ⟨k, x, vo, No⟩ ⟨hk, hx, ho, hf⟩
        dsimp only at hk hx ho hf ⊢
        rcases Nat.lt_or_ge k 8 with hlt | hge
        · have k8 : (k : Int) < 8 := by omega
          obtain ⟨d, hd0⟩ : ∃ d, d = digN w.num (8 * 0 + k) := ⟨_, rfl⟩
          have hd : d = x % 256 := by rw [hd0, dig_part w (by decide) hlt, hx]; rfl
          have e1 : (x : Int).tmod 256 = (d : Int) := by rw [hd]; rfl
          have hdl : d < 256 := by rw [hd]; omega
          obtain ⟨x2, hx2⟩ : ∃ x2 : Nat, x2 = x / 256 := ⟨_, rfl⟩
          have e2 : (x : Int).tdiv 256 = (x2 : Int) := by rw [hx2]; rfl
          have hxl : x2 < 18446744073709551616 := by
            have := w.ha
            have h3 : x ≤ w.a := by rw [hx]; exact Nat.div_le_self _ _
            omega
          simp only [push_cast, seval, reduceCtorEq, k8, e1, wrap_i64' (show -9223372036854775808 ≤ (d : Int) ∧ (d : Int) ≤ 9223372036854775807 by omega)]
          intro b10 hb10
          refine append_out1 (e := 3) (sz := 1) (by_ := 8) (n := k) (m := 1) (ys := [.int .i64 (d : Int)]) ho hb10 (by simp only [push_cast, seval, reduceCtorEq]) (by simp only [push_cast, seval, reduceCtorEq]) rfl rfl (by unfold two47; omega) fun v' N' ho' hf' => ?_
          simp only [push_cast, seval, reduceCtorEq, e2, wrap_u64' (n := (x2 : Int)) (by omega), wrap_i64' (show -9223372036854775808 ≤ (k : Int) + 1 ∧ (k : Int) + 1 ≤ 9223372036854775807 by omega)]
          refine ⟨(k + 1, x2, v', N'), ⟨by dsimp only; omega, ?_, ?_, freshN_cons hf'⟩, by dsimp only; omega, ⟨rfl, rfl, rfl⟩, ?_, ?_⟩
          · dsimp only; rw [hx2, hx, Nat.div_div_eq_div_mul, Nat.pow_succ]
          · dsimp only
            have hz : zs (digs w.num ((k + 1))) = zs (digs w.num (k)) ++ [.int .i64 (d : Int)] := by rw [digs_succ, zs_app, hd0, Nat.mul_zero, Nat.zero_add]; rfl
            rw [hz]
            exact ho'
          · exact subH_pre (subH_cons (fresh_app hb10)) _
          · simp only [marks_append, marksOf, ho.wr.2, ho'.wr.2]
        · obtain rfl : k = 8 := by omega
          simp only [push_cast, seval, reduceCtorEq, wrap_i64' (show -9223372036854775808 ≤ ((0 : Nat) : Int) + 1 ∧ ((0 : Nat) : Int) + 1 ≤ 9223372036854775807 by omega)]
          exact ⟨(1, vo, No), ⟨by dsimp only; omega, ho, hf⟩, by dsimp only; omega, ⟨rfl, rfl⟩, subH_self _, rfl⟩
    · simp only [push_cast, seval, reduceCtorEq, fb]
      refine loopO (noG_ok _) (pl := Tryd.pl56) Tryd.mix (X := Nat × Nat × Value × Hp)
        (fun s => ([(1, .pointer (some ⟨b1, 0, none⟩)), (3, s.2.2.1), (4, .int .i64 1), (5, .int .u64 s.2.1), (6, .int .i64 s.1)], s.2.2.2 ++ [⟨b1, 0, .cel 39, w.cells⟩]))
        (fun s => s.1 ≤ 8 ∧ s.2.1 = w.b / 256 ^ s.1 ∧ OutC 3 1 (zs (digs w.num (8 + s.1))) (8 + s.1) s.2.2.1 s.2.2.2 ∧ freshN s.2.2.2 [⟨b1, 0, .cel 39, w.cells⟩]) (fun s => 8 - s.1) (0, w.b, vo, No) ?_ ?_ (by kernel_rfl) ?_
      · exact ⟨by dsimp only; omega, by simp, ho, hf⟩
      · simp only [push_cast, seval, reduceCtorEq]
        exact subH_self _
      · rintro ⟨k, x, vo, No⟩ ⟨hk, hx, ho, hf⟩
        dsimp only at hk hx ho hf ⊢
        rcases Nat.lt_or_ge k 8 with hlt | hge
        · have k8 : (k : Int) < 8 := by omega
          obtain ⟨d, hd0⟩ : ∃ d, d = digN w.num (8 * 1 + k) := ⟨_, rfl⟩
          have hd : d = x % 256 := by rw [hd0, dig_part w (by decide) hlt, hx]; rfl
          have e1 : (x : Int).tmod 256 = (d : Int) := by rw [hd]; rfl
          have hdl : d < 256 := by rw [hd]; omega
          obtain ⟨x2, hx2⟩ : ∃ x2 : Nat, x2 = x / 256 := ⟨_, rfl⟩
          have e2 : (x : Int).tdiv 256 = (x2 : Int) := by rw [hx2]; rfl
          have hxl : x2 < 18446744073709551616 := by
            have := w.hb
            have h3 : x ≤ w.b := by rw [hx]; exact Nat.div_le_self _ _
            omega
          simp only [push_cast, seval, reduceCtorEq, k8, e1, wrap_i64' (show -9223372036854775808 ≤ (d : Int) ∧ (d : Int) ≤ 9223372036854775807 by omega)]
          intro b10 hb10
          refine append_out1 (e := 3) (sz := 1) (by_ := 8) (n := 8 + k) (m := 1) (ys := [.int .i64 (d : Int)]) ho hb10 (by simp only [push_cast, seval, reduceCtorEq]) (by simp only [push_cast, seval, reduceCtorEq]) rfl rfl (by unfold two47; omega) fun v' N' ho' hf' => ?_
          simp only [push_cast, seval, reduceCtorEq, e2, wrap_u64' (n := (x2 : Int)) (by omega), wrap_i64' (show -9223372036854775808 ≤ (k : Int) + 1 ∧ (k : Int) + 1 ≤ 9223372036854775807 by omega)]
          refine ⟨(k + 1, x2, v', N'), ⟨by dsimp only; omega, ?_, ?_, freshN_cons hf'⟩, by dsimp only; omega, ⟨rfl, rfl, rfl⟩, ?_, ?_⟩
          · dsimp only; rw [hx2, hx, Nat.div_div_eq_div_mul, Nat.pow_succ]
          · dsimp only
            have hz : zs (digs w.num (8 + (k + 1))) = zs (digs w.num (8 + k)) ++ [.int .i64 (d : Int)] := by rw [← Nat.add_assoc, digs_succ, zs_app, hd0]; rfl
            rw [hz]
            exact ho'
          · exact subH_pre (subH_cons (fresh_app hb10)) _
          · simp only [marks_append, marksOf, ho.wr.2, ho'.wr.2]
        · obtain rfl : k = 8 := by omega
          simp only [push_cast, seval, reduceCtorEq, wrap_i64' (show -9223372036854775808 ≤ ((1 : Nat) : Int) + 1 ∧ ((1 : Nat) : Int) + 1 ≤ 9223372036854775807 by omega)]
          exact ⟨(2, vo, No), ⟨by dsimp only; omega, ho, hf⟩, by dsimp only; omega, ⟨rfl, rfl⟩, subH_self _, rfl⟩
    · simp only [push_cast, seval, reduceCtorEq, fb]
      refine loopO (noG_ok _) (pl := Tryd.pl56) Tryd.mix (X := Nat × Nat × Value × Hp)
        (fun s => ([(1, .pointer (some ⟨b1, 0, none⟩)), (3, s.2.2.1), (4, .int .i64 2), (5, .int .u64 s.2.1), (6, .int .i64 s.1)], s.2.2.2 ++ [⟨b1, 0, .cel 39, w.cells⟩]))
        (fun s => s.1 ≤ 8 ∧ s.2.1 = w.c / 256 ^ s.1 ∧ OutC 3 1 (zs (digs w.num (16 + s.1))) (16 + s.1) s.2.2.1 s.2.2.2 ∧ freshN s.2.2.2 [⟨b1, 0, .cel 39, w.cells⟩]) (fun s => 8 - s.1) (0, w.c, vo, No) ?_ ?_ (by kernel_rfl) ?_
      · exact ⟨by dsimp only; omega, by simp, ho, hf⟩
      · simp only [push_cast, seval, reduceCtorEq]
        exact subH_self _
      · rintro ⟨k, x, vo, No⟩ ⟨hk, hx, ho, hf⟩
        dsimp only at hk hx ho hf ⊢
        rcases Nat.lt_or_ge k 8 with hlt | hge
        · have k8 : (k : Int) < 8 := by omega
          obtain ⟨d, hd0⟩ : ∃ d, d = digN w.num (8 * 2 + k) := ⟨_, rfl⟩
          have hd : d = x % 256 := by rw [hd0, dig_part w (by decide) hlt, hx]; rfl
          have e1 : (x : Int).tmod 256 = (d : Int) := by rw [hd]; rfl
          have hdl : d < 256 := by rw [hd]; omega
          obtain ⟨x2, hx2⟩ : ∃ x2 : Nat, x2 = x / 256 := ⟨_, rfl⟩
          have e2 : (x : Int).tdiv 256 = (x2 : Int) := by rw [hx2]; rfl
          have hxl : x2 < 18446744073709551616 := by
            have := w.hc
            have h3 : x ≤ w.c := by rw [hx]; exact Nat.div_le_self _ _
            omega
          simp only [push_cast, seval, reduceCtorEq, k8, e1, wrap_i64' (show -9223372036854775808 ≤ (d : Int) ∧ (d : Int) ≤ 9223372036854775807 by omega)]
          intro b10 hb10
          refine append_out1 (e := 3) (sz := 1) (by_ := 8) (n := 16 + k) (m := 1) (ys := [.int .i64 (d : Int)]) ho hb10 (by simp only [push_cast, seval, reduceCtorEq]) (by simp only [push_cast, seval, reduceCtorEq]) rfl rfl (by unfold two47; omega) fun v' N' ho' hf' => ?_
          simp only [push_cast, seval, reduceCtorEq, e2, wrap_u64' (n := (x2 : Int)) (by omega), wrap_i64' (show -9223372036854775808 ≤ (k : Int) + 1 ∧ (k : Int) + 1 ≤ 9223372036854775807 by omega)]
          refine ⟨(k + 1, x2, v', N'), ⟨by dsimp only; omega, ?_, ?_, freshN_cons hf'⟩, by dsimp only; omega, ⟨rfl, rfl, rfl⟩, ?_, ?_⟩
          · dsimp only; rw [hx2, hx, Nat.div_div_eq_div_mul, Nat.pow_succ]
          · dsimp only
            have hz : zs (digs w.num (16 + (k + 1))) = zs (digs w.num (16 + k)) ++ [.int .i64 (d : Int)] := by rw [← Nat.add_assoc, digs_succ, zs_app, hd0]; rfl
            rw [hz]
            exact ho'
          · exact subH_pre (subH_cons (fresh_app hb10)) _
          · simp only [marks_append, marksOf, ho.wr.2, ho'.wr.2]
        · obtain rfl : k = 8 := by omega
          simp only [push_cast, seval, reduceCtorEq, wrap_i64' (show -9223372036854775808 ≤ ((2 : Nat) : Int) + 1 ∧ ((2 : Nat) : Int) + 1 ≤ 9223372036854775807 by omega)]
          exact ⟨(3, vo, No), ⟨by dsimp only; omega, ho, hf⟩, by dsimp only; omega, ⟨rfl, rfl⟩, subH_self _, rfl⟩
    · simp only [push_cast, seval, reduceCtorEq, fb]
      refine loopO (noG_ok _) (pl := Tryd.pl56) Tryd.mix (X := Nat × Nat × Value × Hp)
        (fun s => ([(1, .pointer (some ⟨b1, 0, none⟩)), (3, s.2.2.1), (4, .int .i64 3), (5, .int .u64 s.2.1), (6, .int .i64 s.1)], s.2.2.2 ++ [⟨b1, 0, .cel 39, w.cells⟩]))
        (fun s => s.1 ≤ 8 ∧ s.2.1 = w.d / 256 ^ s.1 ∧ OutC 3 1 (zs (digs w.num (24 + s.1))) (24 + s.1) s.2.2.1 s.2.2.2 ∧ freshN s.2.2.2 [⟨b1, 0, .cel 39, w.cells⟩]) (fun s => 8 - s.1) (0, w.d, vo, No) ?_ ?_ (by kernel_rfl) ?_
      · exact ⟨by dsimp only; omega, by simp, ho, hf⟩
      · simp only [push_cast, seval, reduceCtorEq]
        exact subH_self _
      · rintro ⟨k, x, vo, No⟩ ⟨hk, hx, ho, hf⟩
        dsimp only at hk hx ho hf ⊢
        rcases Nat.lt_or_ge k 8 with hlt | hge
        · have k8 : (k : Int) < 8 := by omega
          obtain ⟨d, hd0⟩ : ∃ d, d = digN w.num (8 * 3 + k) := ⟨_, rfl⟩
          have hd : d = x % 256 := by rw [hd0, dig_part w (by decide) hlt, hx]; rfl
          have e1 : (x : Int).tmod 256 = (d : Int) := by rw [hd]; rfl
          have hdl : d < 256 := by rw [hd]; omega
          obtain ⟨x2, hx2⟩ : ∃ x2 : Nat, x2 = x / 256 := ⟨_, rfl⟩
          have e2 : (x : Int).tdiv 256 = (x2 : Int) := by rw [hx2]; rfl
          have hxl : x2 < 18446744073709551616 := by
            have := w.hd
            have h3 : x ≤ w.d := by rw [hx]; exact Nat.div_le_self _ _
            omega
          simp only [push_cast, seval, reduceCtorEq, k8, e1, wrap_i64' (show -9223372036854775808 ≤ (d : Int) ∧ (d : Int) ≤ 9223372036854775807 by omega)]
          intro b10 hb10
          refine append_out1 (e := 3) (sz := 1) (by_ := 8) (n := 24 + k) (m := 1) (ys := [.int .i64 (d : Int)]) ho hb10 (by simp only [push_cast, seval, reduceCtorEq]) (by simp only [push_cast, seval, reduceCtorEq]) rfl rfl (by unfold two47; omega) fun v' N' ho' hf' => ?_
          simp only [push_cast, seval, reduceCtorEq, e2, wrap_u64' (n := (x2 : Int)) (by omega), wrap_i64' (show -9223372036854775808 ≤ (k : Int) + 1 ∧ (k : Int) + 1 ≤ 9223372036854775807 by omega)]
          refine ⟨(k + 1, x2, v', N'), ⟨by dsimp only; omega, ?_, ?_, freshN_cons hf'⟩, by dsimp only; omega, ⟨rfl, rfl, rfl⟩, ?_, ?_⟩
          · dsimp only; rw [hx2, hx, Nat.div_div_eq_div_mul, Nat.pow_succ]
          · dsimp only
            have hz : zs (digs w.num (24 + (k + 1))) = zs (digs w.num (24 + k)) ++ [.int .i64 (d : Int)] := by rw [← Nat.add_assoc, digs_succ, zs_app, hd0]; rfl
            rw [hz]
            exact ho'
          · exact subH_pre (subH_cons (fresh_app hb10)) _
          · simp only [marks_append, marksOf, ho.wr.2, ho'.wr.2]
        · obtain rfl : k = 8 := by omega
          simp only [push_cast, seval, reduceCtorEq, wrap_i64' (show -9223372036854775808 ≤ ((3 : Nat) : Int) + 1 ∧ ((3 : Nat) : Int) + 1 ≤ 9223372036854775807 by omega)]
          exact ⟨(4, vo, No), ⟨by dsimp only; omega, ho, hf⟩, by dsimp only; omega, ⟨rfl, rfl⟩, subH_self _, rfl⟩
    · simp only [push_cast, seval, reduceCtorEq]
      refine ⟨No, ?_, ho⟩
      rw [dropM_eq (by simp only [marks_append, marksOf, ho.wr.2, List.append_nil])]
      exact List.sublist_append_left _ _
end Go.Proofs.YtolmipnaheifcaaDoor
set_option linter.unusedSimpArgs false
set_option linter.unusedVariables false
namespace Go.Ev
end Go.Ev
namespace Go.Proofs.YtolmipnaheifcaaDoor
open Go Go.Ev Go.Proofs
set_option maxRecDepth 100000
set_option maxHeartbeats 4000000
end Go.Proofs.YtolmipnaheifcaaDoor
set_option linter.unusedSimpArgs false
set_option linter.unusedVariables false
namespace Go.Ev
noncomputable def cut : Nat → Nat → Nat := hid fun x e => x / 256 ^ e
end Go.Ev
namespace Go.Proofs.YtolmipnaheifcaaDoor
open Go Go.Ev Go.Proofs
set_option maxRecDepth 100000
set_option maxHeartbeats 4000000
end Go.Proofs.YtolmipnaheifcaaDoor
set_option linter.unusedSimpArgs false
set_option linter.unusedVariables false
namespace Go.Ev
def beN : List UInt8 → Nat
  | [] => 0
  | x :: r => x.toNat + 256 * beN r
theorem beN_lt : ∀ (r : List UInt8), beN r < 256 ^ r.length
  | [] => by simp [beN]
  | x :: r => by
    have := beN_lt r
    have hx := x.toNat_lt
    simp only [beN, List.length_cons, Nat.pow_succ]
    omega
noncomputable def frombW : List UInt8 → W := hid fun l => W.of (beN (l.reverse.take 32))
theorem frombW_eq (l : List UInt8) : frombW l = W.of (beN (l.reverse.take 32)) := by unfold frombW; rw [hid_eq]
end Go.Ev
namespace Go.Proofs.YtolmipnaheifcaaDoor
open Go Go.Ev Go.Proofs
set_option maxRecDepth 100000
set_option maxHeartbeats 4000000
end Go.Proofs.YtolmipnaheifcaaDoor
