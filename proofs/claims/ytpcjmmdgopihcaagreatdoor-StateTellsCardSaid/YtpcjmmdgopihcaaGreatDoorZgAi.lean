/- Texts of this claim, merged by program: Ac Ad Ae Af Ag Ah EvU Ai. -/
import Derived.Test.YtpcjmmdgopihcaaGreatDoorZgAh
set_option linter.unusedSimpArgs false
set_option linter.unusedVariables false
set_option maxRecDepth 100000
set_option maxHeartbeats 4000000
namespace Go.Ev
theorem run_loadBytes {P : Program} {w : World} {b : Nat} : ∀ (ns : List Int) (o : Nat) (acc : ByteArray), (∀ j v, (ns.map (Value.int .u8))[j]? = some v → w.cell? ⟨b, o + j, none⟩ = some v) →
  (Extern.Bytes.loadBytes ⟨b, o, none⟩ ns.length acc).run P w = .ok ⟨acc.data ++ (ns.map fun n => UInt8.ofNat n.toNat).toArray⟩ w
 | [], o, acc, _ => by
   simp [Extern.Bytes.loadBytes]
 | x :: r, o, acc, h => by
   have h0 := h 0 (.int .u8 x) rfl
   have hr := run_loadBytes (P := P) r (o + 1) (acc.push (UInt8.ofNat x.toNat)) fun j v hj => by
    have := h (j + 1) v (by simpa using hj)
    rw [show o + 1 + j = o + (j + 1) by omega]; exact this
   rw [List.length_cons, Extern.Bytes.loadBytes]
   rw [Nat.add_zero] at h0
   simp only [Sem.run_bind, run_load, h0, Result.andThen_ok]
   refine Eq.trans (show _ = (Extern.Bytes.loadBytes ⟨b, o + 1, none⟩ r.length (acc.push (UInt8.ofNat x.toNat))).run P w from rfl) (hr.trans ?_)
   congr 2
   rw [show (acc.push (UInt8.ofNat x.toNat)).data = acc.data.push (UInt8.ofNat x.toNat) from rfl]
   simp
noncomputable def cmpL : List UInt8 → List UInt8 → Int := hid fun a b => Extern.BytealgCompare.cmp ⟨a.toArray⟩ ⟨b.toArray⟩
theorem cmpL_eq (a b : List UInt8) : cmpL a b = Extern.BytealgCompare.cmp ⟨a.toArray⟩ ⟨b.toArray⟩ := by unfold cmpL; rw [hid_eq]
noncomputable def cmpM : List Value → Hp → Option Value
 | [.slice (some ⟨b1, o1, none⟩) n1 _, .slice (some ⟨b2, o2, none⟩) n2 _], H => (cellsAt H b1 o1 n1).bind fun x => (cellsAt H b2 o2 n2).bind fun y => (bytesOf x).bind fun l => (bytesOf y).bind fun m => some (.int .i64 (cmpL l m))
 | _, _ => none
attribute [push_cast] bytesOf_byteV
end Go.Ev
namespace Go.Proofs.YtpcjmmdgopihcaaGreatDoor
open Go Go.Ev Go.Proofs
theorem cmpM_ok (args : List Value) (H : Hp) (v : Value) (h : cmpM args H = some v) : ExtM Tryz.prog 93 args H v := by
 unfold cmpM at h
 split at h
 case h_2 => cases h
 rename_i b1 o1 n1 c1 b2 o2 n2 c2
 obtain ⟨x, hx, h⟩ := Option.bind_eq_some_iff.1 h
 obtain ⟨y, hy, h⟩ := Option.bind_eq_some_iff.1 h
 obtain ⟨l, hl, h⟩ := Option.bind_eq_some_iff.1 h
 obtain ⟨m, hm, h⟩ := Option.bind_eq_some_iff.1 h
 cases h
 obtain ⟨ns, rfl, rfl⟩ := bytesOf_ints hl
 obtain ⟨ms, rfl, rfl⟩ := bytesOf_ints hm
 intro w0 mu w hs
 obtain ⟨g1, g2⟩ := hs.cellsAt hx
 obtain ⟨g3, g4⟩ := hs.cellsAt hy
 rw [List.length_map] at g1 g3
 subst g1 g3
 rw [run_callFunc_extern Tryz.func93 (by kernel_rfl) (by kernel_rfl) (by kernel_rfl) (e := Extern.BytealgCompare.compare) (by kernel_rfl)]
 have e1 := run_loadBytes (P := Tryz.prog) ns o1 .empty g2
 have e2 := run_loadBytes (P := Tryz.prog) ms o2 .empty g4
 have e3 : (Extern.BytealgCompare.compare #[.slice (some ⟨b1, o1, none⟩) ns.length c1, .slice (some ⟨b2, o2, none⟩) ms.length c2]).run Tryz.prog w = .ok (.int .i64 (cmpL (ns.map fun n => UInt8.ofNat n.toNat) (ms.map fun n => UInt8.ofNat n.toNat))) w := by
  change Sem.run Tryz.prog (α := Value) (do pure (goInt (Extern.BytealgCompare.cmp (← Extern.Bytes.bytesOf (.slice (some ⟨b1, o1, none⟩) ns.length c1)) (← Extern.Bytes.bytesOf (.slice (some ⟨b2, o2, none⟩) ms.length c2))))) w = _
  simp only [Extern.Bytes.bytesOf, Sem.run_bind, e1, e2, Result.andThen_ok, Sem.run_pure, cmpL_eq]
  have em : ∀ l : List UInt8, (⟨ByteArray.empty.data ++ l.toArray⟩ : ByteArray) = ⟨l.toArray⟩ := fun l => by
   congr 1
   show #[] ++ l.toArray = l.toArray
   simp
  rw [em, em]
  rfl
 rw [e3]
 rfl
noncomputable def gA0 : Gam := (addM 93 cmpM gB)
attribute [push_cast] gA0
theorem gA0_ok : GamOk Tryz.prog gA0 := (addM_ok cmpM_ok gB_ok)
theorem bytesCompare_ok {H : Hp} {b1 o1 n1 c1 b2 o2 n2 c2 : Nat} {l m : List UInt8} (h1 : cellsAt H b1 o1 n1 = some (byteV l)) (h2 : cellsAt H b2 o2 n2 = some (byteV m)) (hm : marksOf H = []) :
  CallsV Tryz.prog 63 [.slice (some ⟨b1, o1, none⟩) n1 c1, .slice (some ⟨b2, o2, none⟩) n2 c2] H (Ret0 (.int .i64 (cmpL l m))) := by
 have hc : cmpM [.slice (some ⟨b1, o1, none⟩) n1 c1, .slice (some ⟨b2, o2, none⟩) n2 c2] H = some (.int .i64 (cmpL l m)) := by
  unfold cmpM
  dsimp only
  rw [h1, h2]
  simp only [Option.bind_some, bytesOf_byteV]
 refine callsO gA0_ok Tryz.mix Tryz.pl63 Tryz.func63 rfl Tryz.ntmps63 Tryz.results63 rfl (by first | rfl | assumption) (Nat.le_of_ble_eq_true rfl) (by kernel_rfl) ?_
 simp only [push_cast, seval, reduceCtorEq, hc]
theorem order_ok (x y : Ad) : CallsV Tryz.prog 32 [x.v, y.v] [] (Ret0 (.int .i64 (cmpL x.l y.l))) := by
 refine callsO gA0_ok Tryz.mix Tryz.pl32 Tryz.func32 rfl Tryz.ntmps32 Tryz.results32 rfl (by first | rfl | assumption) (Nat.le_of_ble_eq_true rfl) (by kernel_rfl) ?_
 simp only [push_cast, seval, reduceCtorEq]
 intro b2 b3 hb3
 have q : ∀ (b : Nat) (z : Ad) (k : Kind) (X : Hp), cellsAt (⟨b, 0, k, z.cells⟩ :: X) b 0 20 = some z.cells := fun b z k X => by
  unfold cellsAt
  simp only [findE, if_true, Nat.zero_le, Nat.sub_zero, subL, List.drop_zero, Nat.zero_add]
  rw [if_pos (by rw [z.len]; omega), List.take_of_length_le (by rw [z.len]; omega)]
 have q2 : ∀ (k k' : Kind), cellsAt [⟨b3, 0, k, y.cells⟩, ⟨b2, 0, k', x.cells⟩] b2 0 20 = some x.cells := fun k k' => by
  have := q b2 x k' []
  unfold cellsAt at this ⊢
  simp only [findE, if_neg hb3.2, if_true] at this ⊢
  exact this
 refine TakeV.mk (Hf := [⟨b3, 0, .ro, y.cells⟩, ⟨b2, 0, .ro, x.cells⟩]) ⟨⟨rfl, by dsimp only; rw [y.len]; exact q b3 y _ _⟩, ⟨rfl, by dsimp only; rw [x.len]; exact q2 _ _⟩, trivial⟩ (bytesCompare_ok (q2 .ro .ro) (q b3 y .ro _) rfl) ?_
 simp only [push_cast, seval, reduceCtorEq]
end Go.Proofs.YtpcjmmdgopihcaaGreatDoor
namespace Go.Ev
noncomputable def mayA (x : Ac) : Bool := decide (0 ≤ x.nonce) && (decide (x.nonce ≤ 9007199254740992) && (decide (x.code.size ≤ 24576) && rightB x.slots))
def emptyA (x : Ac) : Bool := decide (x.bal = W.zero) && (decide (x.nonce = 0) && (decide (x.code.size = 0) && decide (x.slots.length = 0)))
theorem Ac.get (x : Ac) (sv : Value) : List.take 20 (x.cells sv) = x.at_.cells ∧ List.take 4 (List.drop 20 (x.cells sv)) = x.bal.cells ∧ List.take 1 (List.drop 24 (x.cells sv)) = [.int .i64 x.nonce] ∧
  List.take 1 (List.drop 25 (x.cells sv)) = [.string x.code] ∧ List.take 1 (List.drop 26 (x.cells sv)) = [sv] ∧ (x.cells sv).length = 27 := by
 have h := x.at_.len
 unfold Ac.cells
 refine ⟨?_, ?_, ?_, ?_, ?_, ?_⟩
 · rw [List.take_append_of_le_length (by omega), List.take_of_length_le (by omega)]
 · rw [List.drop_append_of_le_length (by omega), List.drop_of_length_le (by omega)]; rfl
 · rw [show 24 = x.at_.cells.length + 4 by omega, List.drop_length_add_append]; rfl
 · rw [show 25 = x.at_.cells.length + 5 by omega, List.drop_length_add_append]; rfl
 · rw [show 26 = x.at_.cells.length + 6 by omega, List.drop_length_add_append]; rfl
 · rw [List.length_append, h]; rfl
end Go.Ev
namespace Go.Proofs.YtpcjmmdgopihcaaGreatDoor
open Go Go.Ev Go.Proofs
theorem may_ok {M : Hp} {x : Ac} {sv : Value} (hs : LiR Sl.cells 8 M x.slots sv) (hm : marksOf M = []) : CallsV Tryz.prog 31 [.agg (x.cells sv).toArray] M (Ret0 (.bool (mayA x))) := by
 obtain ⟨h1, h2, h3, h4, h5, h6⟩ := x.get sv
 refine callsO gA0_ok Tryz.mix (fun i => if i = 1 then [(0, 9)] else Tryz.pl31 i) Tryz.func31 rfl Tryz.ntmps31 Tryz.results31 rfl (by first | rfl | assumption) (Nat.le_of_ble_eq_true rfl) (by kernel_rfl) ?_
 simp only [push_cast, seval, reduceCtorEq]
 intro b1 hb1
 refine regO gA0_ok ?_
 by_cases c1 : 0 ≤ x.nonce
 case neg =>
  have e : mayA x = false := by unfold mayA; rw [decide_eq_false c1]; rfl
  simp only [push_cast, seval, reduceCtorEq, h1, h2, h3, h4, h5, h6, c1, e]
 by_cases c2 : x.nonce ≤ 9007199254740992
 case neg =>
  have e : mayA x = false := by unfold mayA; rw [decide_eq_false c2, decide_eq_true c1]; rfl
  simp only [push_cast, seval, reduceCtorEq, h1, h2, h3, h4, h5, h6, c1, c2, e]
 by_cases c3 : x.code.size ≤ 24576
 case neg =>
  have c3' : ¬ (x.code.size : Int) ≤ 24576 := by omega
  have e : mayA x = false := by unfold mayA; rw [decide_eq_false c3, decide_eq_true c1, decide_eq_true c2]; rfl
  simp only [push_cast, seval, reduceCtorEq, h1, h2, h3, h4, h5, h6, c1, c2, c3, c3', e]
 have c3' : (x.code.size : Int) ≤ 24576 := by omega
 have e : mayA x = rightB x.slots := by unfold mayA; rw [decide_eq_true c3, decide_eq_true c1, decide_eq_true c2]; rfl
 simp only [push_cast, seval, reduceCtorEq, h1, h2, h3, h4, h5, h6, c1, c2, c3, c3']
 refine useP [_] (right_R hs) ⟨hb1, trivial⟩ ?_
 simp only [push_cast, seval, reduceCtorEq, e]
theorem refMay_ok {M : Hp} {x : Ac} {sv : Value} (hs : LiR Sl.cells 8 M x.slots sv) (hm : marksOf M = []) (hn : x.slots.length ≤ 2199023255551) : CallsV Tryz.prog 33 [.agg (x.cells sv).toArray] M (Ret0 (.bool (mayA x))) := by
 obtain ⟨h1, h2, h3, h4, h5, h6⟩ := x.get sv
 refine callsO gA0_ok Tryz.mix (fun i => if i = 1 then [(0, 9)] else Tryz.pl33 i) Tryz.func33 rfl Tryz.ntmps33 Tryz.results33 rfl (by first | rfl | assumption) (Nat.le_of_ble_eq_true rfl) (by kernel_rfl) ?_
 simp only [push_cast, seval, reduceCtorEq]
 intro b1 hb1
 refine regO gA0_ok ?_
 by_cases c1 : 0 ≤ x.nonce
 case neg =>
  have e : mayA x = false := by unfold mayA; rw [decide_eq_false c1]; rfl
  simp only [push_cast, seval, reduceCtorEq, h1, h2, h3, h4, h5, h6, c1, e]
 by_cases c2 : x.nonce ≤ 9007199254740992
 case neg =>
  have e : mayA x = false := by unfold mayA; rw [decide_eq_false c2, decide_eq_true c1]; rfl
  simp only [push_cast, seval, reduceCtorEq, h1, h2, h3, h4, h5, h6, c1, c2, e]
 by_cases c3 : x.code.size ≤ 24576
 case neg =>
  have c3' : ¬ (x.code.size : Int) ≤ 24576 := by omega
  have e : mayA x = false := by unfold mayA; rw [decide_eq_false c3, decide_eq_true c1, decide_eq_true c2]; rfl
  simp only [push_cast, seval, reduceCtorEq, h1, h2, h3, h4, h5, h6, c1, c2, c3, c3', e]
 have c3' : (x.code.size : Int) ≤ 24576 := by omega
 have e : mayA x = rightB x.slots := by unfold mayA; rw [decide_eq_true c3, decide_eq_true c1, decide_eq_true c2]; rfl
 simp only [push_cast, seval, reduceCtorEq, h1, h2, h3, h4, h5, h6, c1, c2, c3, c3']
 refine useP [_] (refRight_R hs (by omega)) ⟨hb1, trivial⟩ ?_
 simp only [push_cast, seval, reduceCtorEq, e]
theorem empty_ok {M : Hp} {x : Ac} {sv : Value} (hs : LiR Sl.cells 8 M x.slots sv) (hm : marksOf M = []) : CallsV Tryz.prog 16 [.agg (x.cells sv).toArray] M (Ret0 (.bool (emptyA x))) := by
 obtain ⟨h1, h2, h3, h4, h5, h6⟩ := x.get sv
 obtain ⟨p, k, rfl, -⟩ := hs
 have va : ∀ w : W, Value.agg w.cells.toArray = w.v := fun _ => rfl
 refine callsO gA0_ok Tryz.mix (fun i => if i = 1 then [(0, 9)] else Tryz.pl16 i) Tryz.func16 rfl Tryz.ntmps16 Tryz.results16 rfl (by first | rfl | assumption) (Nat.le_of_ble_eq_true rfl) (by kernel_rfl) ?_
 simp only [push_cast, seval, reduceCtorEq]
 intro b1 hb1
 refine regO gA0_ok ?_
 by_cases c1 : x.bal = W.zero
 case neg =>
  have e : emptyA x = false := by unfold emptyA; rw [decide_eq_false c1]; rfl
  simp only [push_cast, seval, reduceCtorEq, h1, h2, h3, h4, h5, h6, va, W.zero_agg, decide_eq_false c1, e]
 by_cases c2 : x.nonce = 0
 case neg =>
  have e : emptyA x = false := by unfold emptyA; rw [decide_eq_false c2, decide_eq_true c1]; rfl
  have c2' : (x.nonce == 0) = false := beq_eq_false_iff_ne.2 c2
  simp only [push_cast, seval, reduceCtorEq, h1, h2, h3, h4, h5, h6, va, W.zero_agg, decide_eq_true c1, c2', e]
 have c2' : (x.nonce == 0) = true := by rw [c2]; rfl
 obtain ⟨c3, hc3⟩ : ∃ b, (x.code.toList == ByteArray.toList { data := #[] }) = b := ⟨_, rfl⟩
 have hsz : decide (x.code.size = 0) = c3 := by
  rw [← hc3, ByteArray.toList_eq, ByteArray.toList_eq, Bool.eq_iff_iff, decide_eq_true_eq, beq_iff_eq]
  show x.code.data.size = 0 ↔ x.code.data.toList = []
  rw [← Array.length_toList, List.length_eq_zero_iff]
 cases c3
 case false =>
  have e : emptyA x = false := by unfold emptyA; rw [hsz, decide_eq_true c1, decide_eq_true c2]; rfl
  simp only [push_cast, seval, reduceCtorEq, h1, h2, h3, h4, h5, h6, va, W.zero_agg, decide_eq_true c1, c2', hc3, e]
 have e : emptyA x = decide (x.slots.length = 0) := by unfold emptyA; rw [hsz, decide_eq_true c1, decide_eq_true c2]; rfl
 simp only [push_cast, seval, reduceCtorEq, h1, h2, h3, h4, h5, h6, va, W.zero_agg, decide_eq_true c1, c2', hc3, e]
 congr 1
 rw [Bool.eq_iff_iff, beq_iff_eq, decide_eq_true_eq]
 omega
theorem refEmpty_ok {M : Hp} {x : Ac} {sv : Value} (hs : LiR Sl.cells 8 M x.slots sv) (hm : marksOf M = []) : CallsV Tryz.prog 17 [.agg (x.cells sv).toArray] M (Ret0 (.bool (emptyA x))) := by
 obtain ⟨h1, h2, h3, h4, h5, h6⟩ := x.get sv
 obtain ⟨p, k, rfl, -⟩ := hs
 have va : ∀ w : W, Value.agg w.cells.toArray = w.v := fun _ => rfl
 refine callsO gA0_ok Tryz.mix (fun i => if i = 1 then [(0, 9)] else Tryz.pl17 i) Tryz.func17 rfl Tryz.ntmps17 Tryz.results17 rfl (by first | rfl | assumption) (Nat.le_of_ble_eq_true rfl) (by kernel_rfl) ?_
 simp only [push_cast, seval, reduceCtorEq]
 intro b1 hb1
 refine regO gA0_ok ?_
 by_cases c1 : x.bal = W.zero
 case neg =>
  have e : emptyA x = false := by unfold emptyA; rw [decide_eq_false c1]; rfl
  simp only [push_cast, seval, reduceCtorEq, h1, h2, h3, h4, h5, h6, va, W.zero_agg, decide_eq_false c1, e]
 by_cases c2 : x.nonce = 0
 case neg =>
  have e : emptyA x = false := by unfold emptyA; rw [decide_eq_false c2, decide_eq_true c1]; rfl
  have c2' : (x.nonce == 0) = false := beq_eq_false_iff_ne.2 c2
  simp only [push_cast, seval, reduceCtorEq, h1, h2, h3, h4, h5, h6, va, W.zero_agg, decide_eq_true c1, c2', e]
 have c2' : (x.nonce == 0) = true := by rw [c2]; rfl
 obtain ⟨c3, hc3⟩ : ∃ b, (x.code.toList == ByteArray.toList { data := #[] }) = b := ⟨_, rfl⟩
 have hsz : decide (x.code.size = 0) = c3 := by
  rw [← hc3, ByteArray.toList_eq, ByteArray.toList_eq, Bool.eq_iff_iff, decide_eq_true_eq, beq_iff_eq]
  show x.code.data.size = 0 ↔ x.code.data.toList = []
  rw [← Array.length_toList, List.length_eq_zero_iff]
 cases c3
 case false =>
  have e : emptyA x = false := by unfold emptyA; rw [hsz, decide_eq_true c1, decide_eq_true c2]; rfl
  simp only [push_cast, seval, reduceCtorEq, h1, h2, h3, h4, h5, h6, va, W.zero_agg, decide_eq_true c1, c2', hc3, e]
 have e : emptyA x = decide (x.slots.length = 0) := by unfold emptyA; rw [hsz, decide_eq_true c1, decide_eq_true c2]; rfl
 simp only [push_cast, seval, reduceCtorEq, h1, h2, h3, h4, h5, h6, va, W.zero_agg, decide_eq_true c1, c2', hc3, e]
 congr 1
 rw [Bool.eq_iff_iff, beq_iff_eq, decide_eq_true_eq]
 omega
end Go.Proofs.YtpcjmmdgopihcaaGreatDoor
namespace Go.Ev
theorem get_cons_zero (x : UInt8) (r : List UInt8) : (⟨(x :: r).toArray⟩ : ByteArray)[0]! = x := rfl
theorem get_cons_succ (x : UInt8) (r : List UInt8) (i : Nat) : (⟨(x :: r).toArray⟩ : ByteArray)[i + 1]! = (⟨r.toArray⟩ : ByteArray)[i]! := by
 have e : ∀ (l : List UInt8) (j : Nat), (⟨l.toArray⟩ : ByteArray)[j]! = l.getD j default := fun l j => by
  have hsz : (⟨l.toArray⟩ : ByteArray).size = l.length := by show l.toArray.size = _; simp
  by_cases hj : j < l.length
  · rw [getElem!_pos _ j (by rw [hsz]; exact hj)]
    simp [List.getD, hj]
    rfl
  · rw [getElem!_neg _ j (by rw [hsz]; exact hj)]
    simp [List.getD, hj]
 rw [e, e]
 simp [List.getD]
theorem cmpL_cons (x y : UInt8) (r s : List UInt8) (h : r.length = s.length) : cmpL (x :: r) (y :: s) = if x = y then cmpL r s else if x < y then -1 else 1 := by
 rw [cmpL_eq, cmpL_eq]
 unfold Extern.BytealgCompare.cmp
 have hs1 : (⟨(x :: r).toArray⟩ : ByteArray).size = r.length + 1 := by show (x :: r).toArray.size = _; simp
 have hs2 : (⟨(y :: s).toArray⟩ : ByteArray).size = s.length + 1 := by show (y :: s).toArray.size = _; simp
 have hs3 : (⟨r.toArray⟩ : ByteArray).size = r.length := by show r.toArray.size = _; simp
 have hs4 : (⟨s.toArray⟩ : ByteArray).size = s.length := by show s.toArray.size = _; simp
 rw [hs1, hs2, hs3, hs4, h, Nat.min_self, Nat.min_self, List.range_succ_eq_map, List.find?_cons, get_cons_zero, get_cons_zero]
 by_cases hxy : x = y
 · subst hxy
   simp only [bne_self_eq_false, if_true, List.find?_map, Function.comp_def, Nat.succ_eq_add_one, get_cons_succ]
   cases List.find? (fun i => (⟨r.toArray⟩ : ByteArray)[i]! != (⟨s.toArray⟩ : ByteArray)[i]!) (List.range s.length) with
   | none => simp
   | some i => simp [get_cons_succ]
 · have : (x != y) = true := by simpa using hxy
   simp only [this, if_neg hxy]
   rfl
def numB : List UInt8 → Nat
 | [] => 0
 | x :: r => x.toNat * 256 ^ r.length + numB r
theorem numB_lt : ∀ l : List UInt8, numB l < 256 ^ l.length
 | [] => by simp [numB]
 | x :: r => by
   have h := numB_lt r
   have hx : x.toNat < 256 := x.toNat_lt
   rw [numB, List.length_cons, Nat.pow_succ, Nat.mul_comm _ 256]
   have : (x.toNat + 1) * 256 ^ r.length ≤ 256 * 256 ^ r.length := Nat.mul_le_mul_right _ hx
   rw [Nat.add_mul, Nat.one_mul] at this
   omega
theorem numB_foldl : ∀ (l : List UInt8) (n : Nat), l.foldl (fun n b => 256 * n + b.toNat) n = n * 256 ^ l.length + numB l
 | [], n => by simp [numB]
 | x :: r, n => by
   rw [List.foldl_cons, numB_foldl r, numB, List.length_cons, Nat.pow_succ, Nat.add_mul]
   rw [show 256 * n * 256 ^ r.length = n * (256 ^ r.length * 256) by rw [Nat.mul_comm 256 n, Nat.mul_assoc, Nat.mul_comm 256]]
   omega
theorem Ad.num_eq (x : Ad) : x.num = numB x.l := by unfold Ad.num; rw [numB_foldl]; simp
theorem cmpL_num : ∀ (r s : List UInt8), r.length = s.length → cmpL r s = if numB r < numB s then -1 else if numB s < numB r then 1 else 0
 | [], [], _ => by rw [cmpL_eq]; rfl
 | x :: r, y :: s, h => by
   have h' : r.length = s.length := by simpa using h
   have h1 := numB_lt r
   have h2 := numB_lt s
   rw [cmpL_cons x y r s h', cmpL_num r s h', numB, numB, h']
   rw [h'] at h1
   by_cases hxy : x = y
   · subst hxy
     rw [if_pos rfl]
     simp only [Nat.add_lt_add_iff_left]
   · rw [if_neg hxy]
     have hne : x.toNat ≠ y.toNat := fun e => hxy (UInt8.toNat_inj.1 e)
     by_cases hlt : x < y
     · have hl : x.toNat < y.toNat := hlt
       have : (x.toNat + 1) * 256 ^ s.length ≤ y.toNat * 256 ^ s.length := Nat.mul_le_mul_right _ hl
       rw [Nat.add_mul, Nat.one_mul] at this
       rw [if_pos hlt, if_pos (by omega)]
     · have hl : y.toNat < x.toNat := by have : ¬ x.toNat < y.toNat := hlt; omega
       have : (y.toNat + 1) * 256 ^ s.length ≤ x.toNat * 256 ^ s.length := Nat.mul_le_mul_right _ hl
       rw [Nat.add_mul, Nat.one_mul] at this
       rw [if_neg hlt, if_neg (by omega), if_pos (by omega)]
theorem cmpL_ad (x y : Ad) : cmpL x.l y.l = if x.num < y.num then -1 else if y.num < x.num then 1 else 0 := by
 rw [cmpL_num _ _ (by rw [x.hl, y.hl]), x.num_eq, y.num_eq]
theorem numB_inj : ∀ {r s : List UInt8}, r.length = s.length → numB r = numB s → r = s
 | [], [], _, _ => rfl
 | x :: r, y :: s, h, he => by
   have h' : r.length = s.length := by simpa using h
   have h1 := numB_lt r
   have h2 := numB_lt s
   rw [numB, numB, h'] at he
   rw [h'] at h1
   have hxy : x.toNat = y.toNat := by
    rcases Nat.lt_trichotomy x.toNat y.toNat with hl | hl | hl
    · have : (x.toNat + 1) * 256 ^ s.length ≤ y.toNat * 256 ^ s.length := Nat.mul_le_mul_right _ hl
      rw [Nat.add_mul, Nat.one_mul] at this
      omega
    · exact hl
    · have : (y.toNat + 1) * 256 ^ s.length ≤ x.toNat * 256 ^ s.length := Nat.mul_le_mul_right _ hl
      rw [Nat.add_mul, Nat.one_mul] at this
      omega
   rw [hxy] at he
   rw [UInt8.toNat_inj.1 hxy, numB_inj h' (by omega)]
theorem Ad.num_inj {x y : Ad} (h : x.num = y.num) : x = y := by
 rw [x.num_eq, y.num_eq] at h
 exact Ad.ext (numB_inj (by rw [x.hl, y.hl]) h)
end Go.Ev
namespace Go.Ev
theorem numB_first {a b : UInt8} (hab : a ≠ b) : ∀ (i : Nat) {r s : List UInt8}, r.length = s.length → r.take i = s.take i → r[i]? = some a → s[i]? = some b → (numB r < numB s ↔ a.toNat < b.toNat)
 | 0, x :: r, y :: s, h, _, ha, hb => by
   simp only [List.getElem?_cons_zero, Option.some.injEq] at ha hb
   subst ha hb
   have h' : r.length = s.length := by simpa using h
   have h1 := cmpL_num (x :: r) (y :: s) h
   rw [cmpL_cons x y r s h', if_neg hab] at h1
   by_cases hlt : x.toNat < y.toNat
   · rw [if_pos (show x < y from hlt)] at h1
     refine ⟨fun _ => hlt, fun _ => ?_⟩
     by_cases hn : numB (x :: r) < numB (y :: s)
     · exact hn
     · rw [if_neg hn] at h1
       split at h1 <;> omega
   · rw [if_neg (show ¬ x < y from hlt)] at h1
     refine ⟨fun hn => ?_, fun h => absurd h hlt⟩
     rw [if_pos hn] at h1
     omega
 | 0, [], _, _, _, ha, _ => by simp at ha
 | 0, _ :: _, [], h, _, _, _ => by simp at h
 | i + 1, [], _, _, _, ha, _ => by simp at ha
 | i + 1, _ :: _, [], h, _, _, _ => by simp at h
 | i + 1, x :: r, y :: s, h, ht, ha, hb => by
   have h' : r.length = s.length := by simpa using h
   simp only [List.take_succ_cons, List.cons.injEq] at ht
   obtain ⟨rfl, ht⟩ := ht
   simp only [List.getElem?_cons_succ] at ha hb
   rw [numB, numB, h']
   have := numB_first hab i h' ht ha hb
   omega
end Go.Ev
namespace Go.Proofs.YtpcjmmdgopihcaaGreatDoor
open Go Go.Ev Go.Proofs
theorem less_ok (x y : Ad) : CallsV Tryz.prog 34 [x.v, y.v] [] (Ret0 (.bool (decide (x.num < y.num)))) := by
 refine callsO gA0_ok Tryz.mix Tryz.pl34 Tryz.func34 rfl Tryz.ntmps34 Tryz.results34 rfl (by first | rfl | assumption) (Nat.le_of_ble_eq_true rfl) (by kernel_rfl) ?_
 simp only [push_cast, seval, reduceCtorEq]
 intro b2 b3 hb3
 have hx : x.v.cells.toList = x.cells := rfl
 have hy : y.v.cells.toList = y.cells := rfl
 refine loopO gA0_ok (pl := Tryz.pl34) Tryz.mix (X := Nat)
  (fun i => ([(2, .pointer (some ⟨b2, 0, none⟩)), (3, .pointer (some ⟨b3, 0, none⟩)), (5, .int .i64 i)], [⟨b3, 0, .cel 25, y.cells⟩, ⟨b2, 0, .cel 25, x.cells⟩]))
  (fun i => i ≤ 20 ∧ x.l.take i = y.l.take i) (fun i => 20 - i) 0 ?_ ?_ (by kernel_rfl) ?_
 · exact ⟨Nat.zero_le _, rfl⟩
 · simp only [push_cast, seval, reduceCtorEq, hx, hy, hb3]
 · rintro i ⟨hi, ht⟩
   dsimp only at hi ht ⊢
   rcases Nat.lt_or_ge i 20 with hlt | hge
   · have i1 : (i : Int) < 20 := by omega
     have lx : i < x.l.length := by rw [x.hl]; exact hlt
     have ly : i < y.l.length := by rw [y.hl]; exact hlt
     have gx : List.take 1 (List.drop i x.cells) = [.int .u8 (x.l[i].toNat)] := by
      unfold Ad.cells byteV
      rw [← List.map_drop, ← List.map_take, List.drop_eq_getElem_cons lx]; rfl
     have gy : List.take 1 (List.drop i y.cells) = [.int .u8 (y.l[i].toNat)] := by
      unfold Ad.cells byteV
      rw [← List.map_drop, ← List.map_take, List.drop_eq_getElem_cons ly]; rfl
     have zx : i + 1 ≤ x.cells.length := by rw [x.len]; exact hlt
     have zy : i + 1 ≤ y.cells.length := by rw [y.len]; exact hlt
     by_cases hb : x.l[i] = y.l[i]
     · simp only [push_cast, seval, reduceCtorEq, i1, hlt, hb3, gx, gy, zx, zy, hb, bne_self_eq_false, wrap_i64' (show -9223372036854775808 ≤ (i : Int) + 1 ∧ (i : Int) + 1 ≤ 9223372036854775807 by omega)]
       refine ⟨i + 1, ⟨hlt, ?_⟩, by omega, rfl⟩
       rw [List.take_succ_eq_append_getElem lx, List.take_succ_eq_append_getElem ly, ht, hb]
     · have hn : (((x.l[i].toNat : Nat) : Int) != ((y.l[i].toNat : Nat) : Int)) = true := by
        rw [bne_iff_ne]; intro e; exact hb (UInt8.toNat_inj.1 (by omega))
       have e : decide (x.num < y.num) = decide (x.l[i].toNat < y.l[i].toNat) := by
        rw [decide_eq_decide, x.num_eq, y.num_eq]
        exact numB_first hb i (by rw [x.hl, y.hl]) ht (List.getElem?_eq_getElem lx) (List.getElem?_eq_getElem ly)
       simp only [push_cast, seval, reduceCtorEq, i1, hlt, hb3, gx, gy, zx, zy, hn, e]
   · obtain rfl : i = 20 := by omega
     have e : x = y := Ad.ext (by rw [← List.take_of_length_le (Nat.le_of_eq x.hl), ht, List.take_of_length_le (Nat.le_of_eq y.hl)])
     subst e
     simp only [push_cast, seval, reduceCtorEq, Nat.lt_irrefl]
     try simp
end Go.Proofs.YtpcjmmdgopihcaaGreatDoor
namespace Go.Ev
theorem byteV_injA : ∀ {l m : List UInt8}, byteV l = byteV m → l = m
 | [], [], _ => rfl
 | [], _ :: _, h => by simp [byteV] at h
 | _ :: _, [], h => by simp [byteV] at h
 | x :: l, y :: m, h => by
   simp only [byteV, List.map_cons, List.cons.injEq, Value.int.injEq, true_and] at h
   rw [UInt8.toNat_inj.1 (Int.ofNat_inj.1 h.1), byteV_injA (l := l) (m := m) h.2]
theorem Ad.v_inj {x y : Ad} (h : x.v = y.v) : x = y := by
 unfold Ad.v Ad.cells at h
 injection h with h
 exact Ad.ext (byteV_injA (by simpa using congrArg Array.toList h))
noncomputable def adOf (v : Value) : Option Ad := @dite (Option Ad) (∃ x : Ad, x.v = v) (Classical.propDecidable _) (fun h => some (Classical.choose h)) (fun _ => none)
theorem adOf_v (x : Ad) : adOf x.v = some x := by
 unfold adOf
 rw [dif_pos ⟨x, rfl⟩]
 exact congrArg some (Ad.v_inj (Classical.choose_spec (⟨x, rfl⟩ : ∃ y : Ad, y.v = x.v)))
theorem adOf_some {v : Value} {x : Ad} (h : adOf v = some x) : v = x.v := by
 unfold adOf at h
 split at h
 · rename_i hx
   rw [← Option.some.inj h]
   exact (Classical.choose_spec hx).symm
 · cases h
noncomputable def cmpA : Ad → Ad → Int := hid fun x y => if x.num < y.num then -1 else if y.num < x.num then 1 else 0
theorem cmpA_eq (x y : Ad) : cmpA x y = if x.num < y.num then -1 else if y.num < x.num then 1 else 0 := by unfold cmpA; rw [hid_eq]
noncomputable def lessA : Ad → Ad → Bool := hid fun x y => decide (x.num < y.num)
theorem lessA_eq (x y : Ad) : lessA x y = decide (x.num < y.num) := by unfold lessA; rw [hid_eq]
noncomputable def cmpAG : List Value → Option Value
 | [x, y] => (adOf x).bind fun a => (adOf y).bind fun b => some (.int .i64 (cmpA a b))
 | _ => none
noncomputable def lessAG : List Value → Option Value
 | [x, y] => (adOf x).bind fun a => (adOf y).bind fun b => some (.bool (lessA a b))
 | _ => none
attribute [push_cast] adOf_v cmpAG lessAG
theorem ad2_some {g : Ad → Ad → Value} {args : List Value} {v : Value} (h : (match args with | [x, y] => (adOf x).bind fun a => (adOf y).bind fun b => some (g a b) | _ => none) = some v) : ∃ x y : Ad, args = [x.v, y.v] ∧ v = g x y := by
 split at h
 · rename_i x y
   obtain ⟨a, ha, h⟩ := Option.bind_eq_some_iff.1 h
   obtain ⟨b, hb, h⟩ := Option.bind_eq_some_iff.1 h
   cases h
   exact ⟨a, b, by rw [adOf_some ha, adOf_some hb], rfl⟩
 · cases h
end Go.Ev
namespace Go.Proofs.YtpcjmmdgopihcaaGreatDoor
open Go Go.Ev Go.Proofs
theorem cmpAG_ok (args : List Value) (v : Value) (h : cmpAG args = some v) : CallsV Tryz.prog 32 args [] (Ret0 v) := by
 obtain ⟨x, y, rfl, rfl⟩ := ad2_some (g := fun a b => .int .i64 (cmpA a b)) h
 rw [cmpA_eq, ← cmpL_ad]
 exact order_ok x y
theorem lessAG_ok (args : List Value) (v : Value) (h : lessAG args = some v) : CallsV Tryz.prog 34 args [] (Ret0 v) := by
 obtain ⟨x, y, rfl, rfl⟩ := ad2_some (g := fun a b => .bool (lessA a b)) h
 rw [lessA_eq]
 exact less_ok x y
noncomputable def gA1 : Gam := (addG 34 lessAG (addG 32 cmpAG gA0))
attribute [push_cast] gA1
theorem gA1_ok : GamOk Tryz.prog gA1 := (addG_ok lessAG_ok (addG_ok cmpAG_ok gA0_ok))
end Go.Proofs.YtpcjmmdgopihcaaGreatDoor
namespace Go.Ev
noncomputable def okAt (l : List Ac) (i : Nat) : Bool := match l[i]? with
 | some x => mayA x && (!emptyA x && (decide (i = 0) || match l[i - 1]? with
   | some y => decide (y.at_.num < x.at_.num)
   | none => true))
 | none => true
noncomputable def rightS (l : List Ac) : Bool := (List.range l.length).all (okAt l) && decide (l.length ≤ 200)
theorem rightS_bad {l : List Ac} {i : Nat} (hi : i < l.length) (h : okAt l i = false) : rightS l = false := by
 unfold rightS
 have : (List.range l.length).all (okAt l) = false := by
  rw [List.all_eq_false]
  exact ⟨i, List.mem_range.2 hi, by simp [h]⟩
 rw [this]; rfl
theorem rightS_end {l : List Ac} (h : ∀ i, i < l.length → okAt l i = true) : rightS l = decide (l.length ≤ 200) := by
 unfold rightS
 have : (List.range l.length).all (okAt l) = true := List.all_eq_true.2 fun i hi => h i (List.mem_range.1 hi)
 rw [this]; rfl
end Go.Ev
namespace Go.Proofs.YtpcjmmdgopihcaaGreatDoor
open Go Go.Ev Go.Proofs
def plSR : Plans := fun i => if i = 3 then [(0, 9)] else if i = 4 then [] else Tryz.pl12 i
attribute [push_cast] plSR
theorem sright_ok {M : Hp} {s : List Ac} {v : Value} (hv : StR s v M) (hm : marksOf M = []) (hn : s.length ≤ 2199023255551) : CallsV Tryz.prog 12 [v] M (Ret0 (.bool (rightS s))) := by
 obtain ⟨L, rfl, hL, hS⟩ := hv
 have hlen : (L.map (·.1)).length = L.length := List.length_map _
 rw [hlen] at hn
 obtain ⟨p, c, rfl, hl⟩ := hL.open acC_len (by decide)
 refine callsO gA1_ok Tryz.mix plSR Tryz.func12 rfl Tryz.ntmps12 Tryz.results12 rfl (by first | rfl | assumption) (Nat.le_of_ble_eq_true rfl) (by kernel_rfl) ?_
 simp only [push_cast, seval, reduceCtorEq]
 refine loopO gA1_ok (pl := plSR) Tryz.mix (X := Nat)
  (fun i => ([(0, .slice p L.length c), (5, .slice p L.length c), (6, .int .i64 L.length), (7, .int .i64 i)], M))
  (fun i => i ≤ L.length ∧ ∀ j, j < i → okAt (L.map (·.1)) j = true) (fun i => L.length - i) 0 ?_ ?_ (by kernel_rfl) ?_
 · exact ⟨Nat.zero_le _, fun j hj => absurd hj (Nat.not_lt_zero _)⟩
 · simp only [push_cast, seval, reduceCtorEq]
   try exact subH_self _
 · rintro i ⟨hi, hok⟩
   dsimp only at hi hok ⊢
   rcases Nat.lt_or_ge i L.length with hlt | hge
   · obtain h0 | ⟨b, f, d, kd, cs, rfl, he, hat, -, -⟩ := hl
     · rw [h0] at hlt; exact absurd hlt (Nat.not_lt_zero _)
     obtain ⟨x, hx⟩ : ∃ x, L[i]? = some x := ⟨L[i], List.getElem?_eq_getElem hlt⟩
     obtain ⟨a1, a2⟩ := hat i x hx 0 27 (by decide)
     rw [List.drop_zero, List.take_of_length_le (Nat.le_of_eq (acC_len x)), Nat.add_zero] at a2
     rw [Nat.add_zero] at a1
     have tk : List.take 27 (acC x) = acC x := List.take_of_length_le (Nat.le_of_eq (acC_len x))
     have dr : ∀ l : List Value, List.drop 27 l = List.drop 27 l := fun _ => rfl
     obtain ⟨sp, sk, hsv, -⟩ := hS x (List.mem_of_getElem? hx)
     have al1 : (acC x).all oneC = true := by
      unfold acC Ac.cells
      rw [hsv, List.all_append, x.1.at_.all1]; rfl
     have i1 : (i : Int) < (L.length : Int) := by omega
     have al : (acC x).length = 27 := acC_len x
     simp only [push_cast, seval, reduceCtorEq, i1, hlt]
     refine regO gA1_ok ?_
     simp only [push_cast, seval, reduceCtorEq, i1, hlt, he, a1, a2, al, tk, al1]
     intro b4 hb4
     have hs4 : derE (⟨b4, 0, .cel 31, acC x⟩ :: M) (roAll M) := derE_behind (L := [_]) (M := M) ⟨hb4, trivial⟩
     have hsx := hS x (List.mem_of_getElem? hx)
     have cmay := may_ok (M := roAll M) (hsx.congr (cellsAt_roAll M).symm) (roAll_ro M).marks
     have cemp := empty_ok (M := roAll M) (hsx.congr (cellsAt_roAll M).symm) (roAll_ro M).marks
     refine drawO gA1_ok Tryz.mix (Tryz.pl12 4) (by kernel_rfl) ?_
     simp only [push_cast, seval, reduceCtorEq, al, al1, tk]
     have hxs : (L.map (·.1))[i]? = some x.1 := by rw [List.getElem?_map, hx]; rfl
     have hls : i < (L.map (·.1)).length := by rw [hlen]; exact hlt
     have bad : okAt (L.map (·.1)) i = false → rightS (L.map (·.1)) = false := rightS_bad hls
     have hok0 : okAt (L.map (·.1)) i = (mayA x.1 && (!emptyA x.1 && (decide (i = 0) || match (L.map (·.1))[i - 1]? with
      | some y => decide (y.at_.num < x.1.at_.num)
      | none => true))) := by unfold okAt; rw [hxs]
     refine TakeV.mk hs4 cmay ?_
     cases hmay : mayA x.1
     · have e := bad (by rw [hok0, hmay]; rfl)
       simp only [push_cast, seval, reduceCtorEq, e]
     simp only [push_cast, seval, reduceCtorEq, al, al1, tk]
     refine TakeV.mk hs4 cemp ?_
     cases hemp : emptyA x.1
     case true =>
      have e := bad (by rw [hok0, hmay, hemp]; rfl)
      simp only [push_cast, seval, reduceCtorEq, e]
     rcases Nat.eq_zero_or_pos i with rfl | hpos
     · have e0 : okAt (L.map (·.1)) 0 = true := by rw [hok0, hmay, hemp]; rfl
       simp only [push_cast, seval, reduceCtorEq, al, al1, tk, Int.lt_irrefl, Nat.lt_irrefl, wrap_i64' (show -9223372036854775808 ≤ (0 : Int) + 1 ∧ (0 : Int) + 1 ≤ 9223372036854775807 by omega)]
       exact ⟨1, ⟨hlt, fun j hj => by rw [Nat.lt_one_iff.1 hj]; exact e0⟩, by omega, rfl, subH_cons hb4⟩
     · obtain ⟨k, rfl⟩ : ∃ k, i = k + 1 := ⟨i - 1, by omega⟩
       have hk : k < L.length := by omega
       obtain ⟨y, hy⟩ : ∃ y, L[k]? = some y := ⟨L[k], List.getElem?_eq_getElem hk⟩
       obtain ⟨y1, y2⟩ := hat k y hy 0 20 (by decide)
       have ya : ∀ z : Ac × Value, List.take 20 (acC z) = z.1.at_.cells := fun z => (z.1.get z.2).1
       rw [List.drop_zero, ya, Nat.add_zero] at y2
       rw [Nat.add_zero] at y1
       have va : ∀ z : Ad, Value.agg z.cells.toArray = z.v := fun _ => rfl
       have hys : (L.map (·.1))[k]? = some y.1 := by rw [List.getElem?_map, hy]; rfl
       have hokk : okAt (L.map (·.1)) (k + 1) = decide (y.1.at_.num < x.1.at_.num) := by
        rw [hok0, hmay, hemp, Nat.add_sub_cancel, hys]
        simp
       have nb : ¬ b = b4 := (fresh_findS hb4 he).2
       have p1 : (0 : Int) < (k : Int) + 1 := by omega
       have p2 : (k : Int) + 1 - 1 = (k : Int) := by omega
       have p3 : (k : Int) < (L.length : Int) := by omega
       by_cases hord : y.1.at_.num < x.1.at_.num
       · have e0 : okAt (L.map (·.1)) (k + 1) = true := by rw [hokk, decide_eq_true hord]
         have ec : cmpA y.1.at_ x.1.at_ = -1 := by rw [cmpA_eq, if_pos hord]
         simp only [push_cast, seval, reduceCtorEq, al, al1, tk, p1, p2, p3, hk, wrap_i64' (show -9223372036854775808 ≤ (k : Int) ∧ (k : Int) ≤ 9223372036854775807 by omega), nb, he, y1, y2, ya, va, ec, wrap_i64' (show -9223372036854775808 ≤ (k : Int) + 1 + 1 ∧ (k : Int) + 1 + 1 ≤ 9223372036854775807 by omega)]
         refine ⟨k + 2, ⟨hlt, fun j hj => ?_⟩, by omega, rfl, subH_cons hb4⟩
         rcases Nat.lt_or_ge j (k + 1) with h | h
         · exact hok j h
         · obtain rfl : j = k + 1 := by omega
           exact e0
       · have e := bad (by rw [hokk, decide_eq_false hord])
         have ec : (0 : Int) ≤ cmpA y.1.at_ x.1.at_ := by rw [cmpA_eq, if_neg hord]; split <;> omega
         simp only [push_cast, seval, reduceCtorEq, al, al1, tk, p1, p2, p3, hk, wrap_i64' (show -9223372036854775808 ≤ (k : Int) ∧ (k : Int) ≤ 9223372036854775807 by omega), nb, he, y1, y2, ya, va, ec, e]
   · obtain rfl : i = L.length := by omega
     have e : rightS (L.map (·.1)) = decide (L.length ≤ 200) := by rw [rightS_end (by rw [hlen]; exact hok), hlen]
     have e2 : decide ((L.length : Int) ≤ 200) = decide (L.length ≤ 200) := by rw [decide_eq_decide]; omega
     simp only [push_cast, seval, reduceCtorEq, Nat.lt_irrefl, Int.lt_irrefl, e, e2]
end Go.Proofs.YtpcjmmdgopihcaaGreatDoor
namespace Go.Ev
open Go.RowKit
def OutG (e s : Nat) (cs : List Value) (n : Nat) (v : Value) (N : Hp) : Prop :=
 (n = 0 ∧ cs = [] ∧ v = .slice none 0 0 ∧ N = []) ∨ ∃ b c, v = .slice (some ⟨b, 0, none⟩) n c ∧ n ≤ c ∧ cs.length = n * s ∧ N = [⟨b, 0, .vec e s c, cs⟩]
theorem OutG.wr {e s n : Nat} {cs : List Value} {v : Value} {N : Hp} (h : OutG e s cs n v N) : allWr N ∧ marksOf N = [] := by
 rcases h with ⟨_, _, _, rfl⟩ | ⟨b, c, _, _, _, rfl⟩
 · exact ⟨trivial, rfl⟩
 · exact ⟨⟨trivial, trivial⟩, rfl⟩
theorem LiR.src {α : Type} {c : α → List Value} {s : Nat} {H : Hp} {l : List α} {v : Value} {P : Program} {xt : TypeId} {q : Nat} {ag : Bool} (hl : LiR c s H l v) (hx : elemI P xt = some (none, q, ag)) : srcL P H xt v s = some (l.flatMap c, l.length) := by
 obtain ⟨p, k, rfl, h1 | ⟨b, o, rfl, h1⟩⟩ := hl
 · subst h1
   cases p with
   | none => unfold srcL; rw [hx]; rfl
   | some a =>
     obtain ⟨b, o, sp⟩ := a
     cases sp with
     | none =>
       unfold srcL
       rw [hx]
       dsimp only
       cases hc : cellsAt H b o (([] : List α).length * s) with
       | none => rfl
       | some l =>
         have : l = [] := by
          unfold cellsAt at hc
          split at hc
          · split at hc
            · unfold subL at hc
              split at hc
              · simp at hc; simpa using hc.symm
              · cases hc
            · cases hc
          · cases hc
         subst this; rfl
     | some sp => unfold srcL; rw [hx]; rfl
 · unfold srcL
   rw [hx]
   dsimp only
   rw [h1]
theorem LiR.app {α : Type} {c : α → List Value} {s : Nat} {N M : Hp} {l : List α} {v : Value} (hl : LiR c s M l v) (hf : freshN N M) : LiR c s (N ++ M) l v := by
 obtain ⟨p, k, rfl, h1 | ⟨b, o, rfl, h1⟩⟩ := hl
 · exact ⟨p, k, rfl, .inl h1⟩
 · refine ⟨_, k, rfl, .inr ⟨b, o, rfl, ?_⟩⟩
   obtain ⟨e, he⟩ := cellsAt_findS h1
   unfold cellsAt at h1 ⊢
   rw [findE_freshN hf (b := b) he]
   exact h1
theorem OutG.liR {α : Type} {c : α → List Value} {s e n : Nat} {cs : List Value} {v : Value} {N : Hp} {l : List α} (ho : OutG e s cs n v N) (hn : n = l.length) (hc : cs = l.flatMap c) (X : Hp) : LiR c s (N ++ X) l v := by
 subst hn hc
 rcases ho with ⟨h1, h2, rfl, rfl⟩ | ⟨b, k, rfl, h1, h2, rfl⟩
 · rw [List.length_eq_zero_iff.1 h1]; exact LiR.nil _ _
 · refine ⟨_, k, rfl, .inr ⟨b, 0, rfl, ?_⟩⟩
   unfold cellsAt
   simp only [List.cons_append, findE, if_true, Nat.sub_zero, subL, List.drop_zero]
   rw [if_pos (Nat.zero_le _), if_pos (by omega), List.take_of_length_le (by omega)]
theorem OutG.slice {e s n : Nat} {cs : List Value} {v : Value} {N : Hp} (h : OutG e s cs n v N) : ∃ p c, v = .slice p n c := by
 rcases h with ⟨rfl, _, rfl, _⟩ | ⟨b, c, rfl, _, _, _⟩
 · exact ⟨_, _, rfl⟩
 · exact ⟨_, _, rfl⟩
theorem LiR.find {α : Type} {c : α → List Value} {s : Nat} {X Y : Hp} {l : List α} {v : Value} (h : ∀ b e, findE X b = some e → findE Y b = some e) (hl : LiR c s X l v) : LiR c s Y l v := by
 obtain ⟨p, k, rfl, h1 | ⟨b, o, rfl, h1⟩⟩ := hl
 · exact ⟨p, k, rfl, .inl h1⟩
 · refine ⟨_, k, rfl, .inr ⟨b, o, rfl, ?_⟩⟩
   obtain ⟨e, he⟩ := cellsAt_findS h1
   unfold cellsAt at h1 ⊢
   rw [h b e he]
   rw [he] at h1
   exact h1
theorem LiR.slice {α : Type} {c : α → List Value} {s : Nat} {H : Hp} {l : List α} {v : Value} (h : LiR c s H l v) : ∃ p k, v = .slice p l.length k := by
 obtain ⟨p, k, rfl, -⟩ := h; exact ⟨p, k, rfl⟩
theorem LiR.openC {α : Type} {c : α → List Value} {s : Nat} {l : List α} {H : Hp} {v : Value} (hs : ∀ x, (c x).length = s) (h0 : 0 < s) (h : LiR c s H l v) : ∃ p k, v = .slice p l.length k ∧ (l = [] ∨ ∃ b f d kd cs, p = some ⟨b, f + d, none⟩ ∧ findE H b = some ⟨b, f, kd, cs⟩ ∧
  ∀ i x, l[i]? = some x → d + i * s + s ≤ cs.length ∧ List.take s (List.drop (d + i * s) cs) = c x) := by
 obtain ⟨p, k, rfl, h0 | ⟨b, f, d, kd, cs, rfl, he, hat, -, -⟩⟩ := h.open hs h0
 · exact ⟨p, k, rfl, .inl h0⟩
 · refine ⟨_, k, rfl, .inr ⟨b, f, d, kd, cs, rfl, he, fun i x hx => ?_⟩⟩
   have := hat i x hx 0 s (by omega)
   rw [List.drop_zero, List.take_of_length_le (Nat.le_of_eq (hs x)), Nat.add_zero] at this
   exact this
theorem Gr.find {M M' : Hp} (h : Gr M M') {b : Nat} {e : Ent} (hf : findE M b = some e) : findE M' b = some e := by
 obtain ⟨_, N, rfl, _, _⟩ := h
 rw [findE_app, hf]
theorem OutC.g {e s n : Nat} {cs : List Value} {v : Value} {N : Hp} (h : OutC e s cs n v N) : OutG e s cs n v N := by
 rcases h with ⟨h1, h2, h3, h4⟩ | ⟨b, c, h0, h1, h2, h3, h4⟩
 · exact .inl ⟨h1, h2, h3, h4⟩
 · exact .inr ⟨b, c, h1, h2, h3, h4⟩
theorem findE_A {b : Nat} {X : Hp} : ∀ {A : Hp}, (∀ a ∈ A, ¬ b = a.blk) → findE (A ++ X) b = findE X b
 | [], _ => rfl
 | a :: r, h => by
   rw [List.cons_append, findE, if_neg (h a (by simp))]
   exact findE_A fun x hx => h x (by simp [hx])
theorem remE_A {b : Nat} {X : Hp} : ∀ {A : Hp}, (∀ a ∈ A, ¬ b = a.blk) → remE (A ++ X) b = A ++ remE X b
 | [], _ => rfl
 | a :: r, h => by
   rw [List.cons_append, remE, if_neg (h a (by simp)), remE_A fun x hx => h x (by simp [hx])]; rfl
theorem append_outA {P : Program} {A X N : Hp} {st xt e sz by_ n m : Nat} {cs ys : List Value} {v x : Value} {K : Value → Hp → Prop} (ho : OutC e sz cs n v N) (hA : freshN A N) (hs : slI P st = some (e, sz, by_)) (hx : srcL P (A ++ (N ++ X)) xt x sz = some (ys, m)) (hl : ys.length = m * sz) (h1 : ys.all oneC = true) (hb : (n + m) * by_ ≤ two47)
  (hk : ∀ v' N', OutC e sz (cs ++ ys) (n + m) v' N' → freshN N' (A ++ X) → K v' (N' ++ (A ++ X))) : evAppend P (A ++ (N ++ X)) st xt v x K := by
 have hsz : 0 < sz := (slI_eq hs).2.elim fun _ h => h.elim fun _ h => h.2.2.2.2.2.1
 unfold evAppend
 rw [hs]
 dsimp only
 rw [hx]
 dsimp only
 rcases ho with ⟨rfl, rfl, rfl, rfl⟩ | ⟨b, c, h0, rfl, hc, hcl, rfl⟩
 · refine ⟨⟨rfl, rfl⟩, fun hm => ?_, fun hm => ⟨by simpa using hb, fun b c' hf hc' => ?_⟩⟩
   · subst hm
     have : ys = [] := List.length_eq_zero_iff.1 (by simpa using hl)
     subst this
     exact hk _ [] (.inl ⟨rfl, rfl, rfl, rfl⟩) trivial
   · have := hk (.slice (some ⟨b, 0, none⟩) (0 + m) c') [⟨b, 0, .vec e sz c', [] ++ ys⟩] (.inr ⟨b, c', by omega, rfl, by omega, by simpa using hl, rfl⟩) ⟨hf, trivial⟩
     rw [Nat.zero_add] at this
     exact this
 · have hb' : ∀ a ∈ A, ¬ b = a.blk := fun a ha h => by
    have := freshN_iff.1 hA a ha _ (List.mem_singleton.2 rfl)
    exact this h
   have e1 : findE (A ++ ([⟨b, 0, .vec e sz c, cs⟩] ++ X)) b = some ⟨b, 0, .vec e sz c, cs⟩ := by rw [findE_A hb']; simp [findE]
   have e2 : remE (A ++ ([⟨b, 0, .vec e sz c, cs⟩] ++ X)) b = A ++ X := by rw [remE_A hb']; simp [remE]
   dsimp only
   rw [e1, e2]
   dsimp only
   rw [if_pos hcl]
   refine ⟨⟨rfl, rfl, rfl, rfl, hcl⟩, hb, h1, fun b' c' hf hc' => ?_⟩
   exact hk _ [⟨b', 0, .vec e sz c', cs ++ ys⟩] (.inr ⟨b', c', by omega, rfl, hc', by rw [List.length_append, hcl, hl, Nat.add_mul], rfl⟩) ⟨hf, trivial⟩
theorem push_outA {P : Program} {α : Type} {c : α → List Value} {e e' s' sz by_ st q : Nat} {ag : Bool} {l : List α} {x : α} {v : Value} (A : Hp) {N X : Hp} {b k : Nat} {K : Value → Hp → Prop} (ho : OutC e sz (l.flatMap c) l.length v N) (hA : freshN (⟨b, 0, .vec e' s' 1, c x⟩ :: A) N) (hs : slI P st = some (e, sz, by_)) (he : elemI P st = some (none, q, ag))
  (hl : (c x).length = sz) (h1 : (c x).all oneC = true) (hb : (l.length + 1) * by_ ≤ two47)
  (hk : ∀ v' N', OutC e sz ((l ++ [x]).flatMap c) (l ++ [x]).length v' N' → freshN N' (⟨b, 0, .vec e' s' 1, c x⟩ :: (A ++ X)) → K v' (N' ++ ⟨b, 0, .vec e' s' 1, c x⟩ :: (A ++ X))) : evAppend P (⟨b, 0, .vec e' s' 1, c x⟩ :: (A ++ (N ++ X))) st st v (.slice (some ⟨b, 0, none⟩) 1 k) K := by
 refine append_outA (A := ⟨b, 0, .vec e' s' 1, c x⟩ :: A) (e := e) (sz := sz) (by_ := by_) (n := l.length) (m := 1) (ys := c x) ho hA hs ?_ (by rw [hl, Nat.one_mul]) h1 hb fun v' N' ho' hf' => hk v' N' ?_ hf'
 · unfold srcL
   rw [he]
   dsimp only
   unfold cellsAt
   simp only [List.cons_append, findE, if_true, Nat.le_refl, Nat.sub_self, subL, Nat.zero_add, List.drop_zero, Nat.one_mul]
   rw [if_pos (Nat.le_of_eq hl.symm), List.take_of_length_le (Nat.le_of_eq hl)]
 · rw [List.flatMap_append, List.length_append, List.flatMap_cons, List.flatMap_nil, List.append_nil]
   exact ho'
def OwnK (M0 : Hp) (Q : Value → Hp → Hp → Prop) : Value → Hp → Prop := fun v N => ∃ N1 N2, N = N1 ++ N2 ∧ allWr N1 ∧ marksOf N1 = [] ∧ allWr N2 ∧ marksOf N2 = [] ∧ freshN N1 N2 ∧ (freshN N M0 → Q v N1 (N2 ++ M0))
def RdOwn (Q : Value → Hp → Hp → Prop) : Prop := ∀ v N1 A B, cellsAt A = cellsAt B → Q v N1 A → Q v N1 B
def CallsW (P : Program) (g : FuncId) (args : List Value) (M : Hp) (Q : Value → Hp → Hp → Prop) : Prop :=
 ∀ M0, roM M0 → cellsAt M0 = cellsAt M → CallsV P g args M0 (OwnK M0 Q)
theorem freshN_appL {N1 N2 H : Hp} : freshN (N1 ++ N2) H ↔ freshN N1 H ∧ freshN N2 H := by
 rw [freshN_iff, freshN_iff, freshN_iff]
 exact ⟨fun h => ⟨fun e he => h e (List.mem_append_left _ he), fun e he => h e (List.mem_append_right _ he)⟩, fun ⟨h1, h2⟩ e he => (List.mem_append.1 he).elim (h1 e) (h2 e)⟩
theorem freshN_ro {N M : Hp} (h : freshN N M) : freshN N (roAll M) := freshN_iff.2 fun e he x hx => by
 have h2 := (roAll_mem hx).2
 rw [findE_roAll] at h2
 obtain ⟨e0, h3, h4⟩ := Option.map_eq_some_iff.1 h2
 obtain ⟨hy1, hy2⟩ := findE_mem h3
 rw [← hy2]
 exact freshN_iff.1 h e he e0 hy1
theorem cellsAt_ro_app (M N : Hp) : cellsAt (roAll M ++ N) = cellsAt (M ++ N) := by
 funext b o n
 unfold cellsAt
 rw [findE_app, findE_app, findE_roAll]
 cases findE M b <;> rfl
theorem useN {P : Program} {g : FuncId} {args : List Value} (L : Hp) {M : Hp} {Q : Value → Hp → Hp → Prop} {K' : Value → Hp → Prop} (hc : CallsW P g args M Q) (hQ : RdOwn Q) (hm : marksOf M = []) (hL : freshN L M)
  (hk : ∀ v N1 M', Gr M M' → freshN N1 (L ++ M') → freshN L M' → allWr N1 → marksOf N1 = [] → Q v N1 M' → K' v (N1 ++ (L ++ M'))) : CallsV P g args (L ++ M) K' := by
 have hc0 := hc (roAll M) (roAll_ro M) (cellsAt_roAll M)
 refine (hc0.use (derE_behind hL) (K' := fun v H' => ∃ N1 N2, H' = (N1 ++ N2) ++ (L ++ M) ∧ marksOf N1 = [] ∧ marksOf N2 = [] ∧ K' v (N1 ++ (L ++ (M ++ N2)))) ?_).perm ?_
 · rintro v N ⟨N1, N2, rfl, w1, m1, w2, m2, f12, hq⟩
   refine ⟨allWr_app w1 w2, by rw [marks_append, m1, m2]; rfl, fun hf => ⟨N1, N2, rfl, m1, m2, ?_⟩⟩
   obtain ⟨hf1, hf2⟩ := freshN_appL.1 hf
   have hfL := freshN_mono hf
   have h1L := (freshN_mono hf1)
   have h2L := (freshN_mono hf2)
   refine hk v N1 (M ++ N2) ⟨hm, N2, rfl, w2, m2⟩ (freshN_comb h1L.1 (freshN_comb h1L.2 f12)) (freshN_comb hL (freshN_sym h2L.1)) w1 m1 (hQ _ _ _ _ ?_ (hq (freshN_ro hfL.2)))
   rw [cellsAt_swap (freshN_ro h2L.2)]
   exact cellsAt_ro_app M N2
 · rintro v H' ⟨N1, N2, rfl, m1, m2, hk'⟩
   refine ⟨_, ?_, ?_, hk'⟩
   · rw [List.append_assoc]
     refine List.Perm.append_left N1 ?_
     rw [← List.append_assoc L M N2]
     exact List.perm_append_comm
   · simp only [marks_append, m1, m2, List.append_nil, List.nil_append]
theorem useB {P : Program} {g : FuncId} {args : List Value} (L : Hp) {M : Hp} {Q : Value → Hp → Hp → Prop} {K' : Value → Hp → Prop} (hc : CallsW P g args M Q) (hQ : RdOwn Q) (hm : marksOf M = []) (hL : freshN L M)
  (hk : ∀ v N1 M', Gr M M' → freshN N1 M' → freshN L (N1 ++ M') → allWr N1 → marksOf N1 = [] → Q v N1 M' → K' v (L ++ (N1 ++ M'))) : CallsV P g args (L ++ M) K' := by
 refine (useN L (K' := fun v H' => ∃ N1 M', H' = N1 ++ (L ++ M') ∧ marksOf N1 = [] ∧ K' v (L ++ (N1 ++ M'))) hc hQ hm hL fun v N1 M' hg hf hL' hw hm1 hq => ⟨N1, M', rfl, hm1, hk v N1 M' hg (freshN_mono hf).2 (freshN_comb (freshN_sym (freshN_mono hf).1) hL') hw hm1 hq⟩).perm ?_
 rintro v H' ⟨N1, M', rfl, hm1, hk'⟩
 refine ⟨_, ?_, ?_, hk'⟩
 · rw [← List.append_assoc, ← List.append_assoc]
   exact List.Perm.append_right M' List.perm_append_comm
 · simp only [marks_append, hm1, List.nil_append]
theorem doneN {M M1 : Hp} (L : Hp) {N1 : Hp} {Q : Value → Hp → Hp → Prop} {v : Value} (hg : Gr M M1) (hw : allWr N1) (hm1 : marksOf N1 = []) (hf : freshN N1 M1) (hQ : RdOwn Q) (hq : Q v N1 M1) : ∃ H', H'.Sublist (L ++ dropM (N1 ++ M1)) ∧ OwnK M Q v H' := by
 obtain ⟨h1, N2, rfl, h2, h3⟩ := hg
 refine ⟨N1 ++ N2, ?_, N1, N2, rfl, hw, hm1, h2, h3, (freshN_mono hf).2, fun hf' => hQ v N1 _ _ (cellsAt_swap (freshN_appL.1 hf').2).symm hq⟩
 rw [dropM_eq (by rw [marks_append, marks_append, hm1, h1, h3]; rfl)]
 exact ((List.Sublist.refl N1).append (List.sublist_append_right M N2)).trans (List.sublist_append_right L _)
theorem doneS {M M1 N1 A : Hp} {Q : Value → Hp → Hp → Prop} {v : Value} (hg : Gr M M1) (hw : allWr N1) (hm1 : marksOf N1 = []) (hf : freshN N1 M1) (hQ : RdOwn Q) (hq : Q v N1 M1) (hs : (N1 ++ dropM M1).Sublist A) : ∃ H', H'.Sublist A ∧ OwnK M Q v H' := by
 obtain ⟨H', h1, h2⟩ := doneN [] hg hw hm1 hf hQ hq
 rw [List.nil_append, dropM_eq (by rw [marks_append, hm1, hg.marks]; rfl)] at h1
 rw [dropM_eq hg.marks] at hs
 exact ⟨H', h1.trans hs, h2⟩
theorem CallsW.toR {P : Program} {g : FuncId} {args : List Value} {M : Hp} {Q : Value → Hp → Hp → Prop} {Q' : Value → Hp → Prop} (hc : CallsW P g args M Q) (h : ∀ v N1 A, allWr N1 → marksOf N1 = [] → freshN N1 A → Q v N1 A → Q' v (N1 ++ A)) : CallsR P g args M Q' := fun M0 hr he =>
 (hc M0 hr he).toK fun v N hN => by
  obtain ⟨N1, N2, rfl, w1, m1, w2, m2, f12, hq⟩ := hN
  refine ⟨allWr_app w1 w2, by rw [marks_append, m1, m2]; rfl, fun hf => ?_⟩
  rw [List.append_assoc]
  exact h v N1 _ w1 m1 (freshN_comb f12 (freshN_appL.1 hf).1) (hq hf)
theorem fullV {P : Program} {r : Option Nat} {n : Nat} {c : Code} {K : Exit → Tm → Hp → Prop} {T : Tm} {b e s cap : Nat} {xs : List Value} {H : Hp} (h : ∀ ys, (xs ++ ys).length = cap * s → WpV P r n c K T (⟨b, 0, .vec e s cap, xs ++ ys⟩ :: H)) : WpV P r n c K T (⟨b, 0, .vec e s cap, xs⟩ :: H) := by
 intro w0 mu a w hr ht hs hd
 have hh := hs.ents _ (List.mem_cons_self ..)
 unfold Ent.holds at hh
 dsimp only at hh
 obtain ⟨h0, cs, fz, hcs, hfz, hsize, hle, hpre⟩ := hh
 have hcl : cs.toList.length = cs.size := Array.length_toList
 have hx : cs.toList = xs ++ cs.toList.drop xs.length := by
  have htk : cs.toList.take xs.length = xs := by
   apply List.ext_getElem?
   intro i
   rw [List.getElem?_take]
   by_cases hi : i < xs.length
   · rw [if_pos hi, List.getElem?_eq_getElem hi]
     have := hpre i xs[i] (List.getElem?_eq_getElem hi)
     simpa using this
   · rw [if_neg hi, List.getElem?_eq_none (by omega)]
  have : cs.toList = cs.toList.take xs.length ++ cs.toList.drop xs.length := (List.take_append_drop _ _).symm
  rwa [htk] at this
 refine h (cs.toList.drop xs.length) (by rw [← hx, Array.length_toList, hsize]) w0 mu a w hr ht ?_ (by rw [hd]; simp [defersOf, marksOf])
 rw [← hx]
 have h1 := hs.apart
 have h2 := hs.own
 refine ⟨hs.os, hs.tape, hs.output, hs.size, hs.old, fun x hx => ?_, fun x hx hw => ?_, ?_⟩
 · rcases List.mem_cons.1 hx with rfl | hx
   · unfold Ent.holds
     exact ⟨rfl, cs, fz, hcs, hfz, hsize, by rw [Array.length_toList, hsize]; exact Nat.le_refl _, fun k v hk => by simpa using hk⟩
   · exact hs.ents x (List.mem_cons_of_mem _ hx)
 · rcases List.mem_cons.1 hx with rfl | hx
   · exact h2 ⟨b, 0, .vec e s cap, xs⟩ (List.mem_cons_self ..) trivial
   · exact h2 x (List.mem_cons_of_mem _ hx) hw
 · obtain ⟨p1, p2⟩ := List.pairwise_cons.1 h1
   exact List.pairwise_cons.2 ⟨fun x hx hw => p1 x hx (.inl trivial), p2⟩
end Go.Ev
namespace Go.Ev
theorem Ac.all1 (x : Ac) (sv : Value) (h : oneC sv = true) : (x.cells sv).all oneC = true := by
 unfold Ac.cells
 rw [List.all_append, x.at_.all1]
 show ((x.bal.cells ++ [.int .i64 x.nonce, .string x.code, sv]).all oneC) = true
 rw [List.all_append]
 simp only [List.all_cons, h]
 rfl
theorem Ac.set26 (x : Ac) (sv sv' : Value) : List.take 26 (x.cells sv) ++ sv' :: List.drop 27 (x.cells sv) = x.cells sv' := by
 have h := x.at_.len
 unfold Ac.cells
 rw [show 26 = x.at_.cells.length + 6 by omega, show 27 = x.at_.cells.length + 7 by omega, List.take_length_add_append, List.drop_length_add_append, List.append_assoc]
 rfl
def Ac.zeroC : List Value := [.int .u8 0, .int .u8 0, .int .u8 0, .int .u8 0, .int .u8 0, .int .u8 0, .int .u8 0, .int .u8 0, .int .u8 0, .int .u8 0, .int .u8 0, .int .u8 0, .int .u8 0, .int .u8 0, .int .u8 0, .int .u8 0, .int .u8 0, .int .u8 0, .int .u8 0, .int .u8 0, .int .u64 0, .int .u64 0, .int .u64 0, .int .u64 0, .int .i64 0, .string .empty, .slice none 0 0]
theorem Ac.all1s (x : Ac) (p : Option Addr) (n k : Nat) : (x.cells (.slice p n k)).all oneC = true := x.all1 _ rfl
theorem Ac.len26 (x : Ac) (sv : Value) : (List.take 26 (x.cells sv)).length + ((List.drop 27 (x.cells sv)).length + 1) = 27 := by
 have h := (x.get sv).2.2.2.2.2
 rw [List.length_take, List.length_drop, h]; rfl
theorem Ac.len (x : Ac) (sv : Value) : (x.cells sv).length = 27 := (x.get sv).2.2.2.2.2
theorem Ac.take27 (x : Ac) (sv : Value) : List.take 27 (x.cells sv) = x.cells sv := List.take_of_length_le (Nat.le_of_eq (x.len sv))
theorem Ac.drop27 (x : Ac) (sv : Value) : List.drop 27 (x.cells sv) = [] := List.drop_of_length_le (Nat.le_of_eq (x.len sv))
theorem Ac.at0 (x : Ac) (sv : Value) : List.take 20 (x.cells sv) = x.at_.cells := (x.get sv).1
theorem Ac.bal20 (x : Ac) (sv : Value) : List.take 4 (List.drop 20 (x.cells sv)) = x.bal.cells := (x.get sv).2.1
theorem Ac.non24 (x : Ac) (sv : Value) : List.take 1 (List.drop 24 (x.cells sv)) = [.int .i64 x.nonce] := (x.get sv).2.2.1
theorem Ac.cod25 (x : Ac) (sv : Value) : List.take 1 (List.drop 25 (x.cells sv)) = [.string x.code] := (x.get sv).2.2.2.1
theorem Ac.slo26 (x : Ac) (sv : Value) : List.take 1 (List.drop 26 (x.cells sv)) = [sv] := (x.get sv).2.2.2.2.1
theorem Ad.agg (x : Ad) : Value.agg x.cells.toArray = x.v := rfl
theorem Ad.v_cells (x : Ad) : x.v.cells = x.cells.toArray := rfl
theorem Ac.set26b (x : Ac) (sv sv' : Value) : List.take 26 (x.cells sv) ++ [sv'] = x.cells sv' := by
 have := x.set26 sv sv'
 rwa [Ac.drop27] at this
theorem Ac.len26b (x : Ac) (sv : Value) : (List.take 26 (x.cells sv)).length = 26 := by rw [List.length_take, Ac.len]; rfl
attribute [push_cast] Ac.set26b Ac.len26b Ac.all1s Ac.len26 Ac.len Ac.take27 Ac.drop27 Ac.at0 Ac.bal20 Ac.non24 Ac.cod25 Ac.slo26 Ac.set26 Ad.len Ad.all1 Ad.agg Ad.v_cells
theorem LiR.one {α : Type} {c : α → List Value} {s : Nat} {H : Hp} {l : List α} {v : Value} (h : LiR c s H l v) : oneC v = true := by
 obtain ⟨p, k, rfl, -⟩ := h; rfl
theorem slAll (l : List Sl) : (l.flatMap Sl.cells).all oneC = true := by
 rw [List.all_flatMap]
 exact List.all_eq_true.2 fun x _ => x.all1
theorem acAll {l : List (Ac × Value)} (h : ∀ x ∈ l, oneC x.2 = true) : (l.flatMap acC).all oneC = true := by
 rw [List.all_flatMap]
 exact List.all_eq_true.2 fun x hx => x.1.all1 _ (h x hx)
theorem Ch.all1 (x : Ch) : x.cells.all oneC = true := by
 unfold Ch.cells
 rw [List.all_cons, List.all_append, x.at_.all1]; rfl
end Go.Ev
namespace Go.Proofs.YtpcjmmdgopihcaaGreatDoor
open Go Go.Ev Go.Proofs
theorem refown_ok {M : Hp} {x : Ac} {sv : Value} (hs : LiR Sl.cells 8 M x.slots sv) (hn : x.slots.length ≤ 2199023255551) : CallsR Tryz.prog 42 [.agg (x.cells sv).toArray] M (AcR x) := by
 intro M0 hr he
 have hm := hr.marks
 replace hs := hs.congr he.symm
 obtain ⟨h1, h2, h3, h4, h5, h6⟩ := x.get sv
 refine callsO gA1_ok Tryz.mix (fun i => if i = 1 then [(0, 9)] else Tryz.pl42 i) Tryz.func42 rfl Tryz.ntmps42 Tryz.results42 rfl (by first | rfl | assumption) (Nat.le_of_ble_eq_true rfl) (by kernel_rfl) ?_
 simp only [push_cast, seval, reduceCtorEq]
 intro b1 hb1 b2 hb2
 have hL : freshN [⟨b2, 0, .cel 31, Ac.zeroC⟩, ⟨b1, 0, .cel 31, x.cells sv⟩] M0 := ⟨hb2.2.2, hb1, trivial⟩
 have hsrc := (hs.app hL).src (P := Tryz.prog) (xt := 29) (q := 8) (ag := true) (by simp only [push_cast, seval, reduceCtorEq])
 simp only [List.cons_append, List.nil_append, Ac.zeroC] at hsrc
 refine regO gA1_ok ?_
 simp only [push_cast, seval, reduceCtorEq, hb2, hsrc]
 refine ⟨fun h0 => ?_, fun h0 => ⟨by unfold two47; omega, fun b3 c3 hb3 hc3 => ?_⟩⟩
 · have hn0 : x.slots = [] := List.length_eq_zero_iff.1 h0
   refine ⟨[], List.nil_sublist _, trivial, rfl, fun _ => ⟨_, rfl, ?_⟩⟩
   rw [hn0]; exact LiR.nil _ _
 · simp only [push_cast, seval, reduceCtorEq, hb2, hb3]
   refine ⟨[⟨b3, 0, .vec 67 8 c3, List.flatMap Sl.cells x.slots⟩], ?_, ⟨trivial, trivial⟩, rfl, fun _ => ⟨_, rfl, ?_⟩⟩
   · exact (List.nil_sublist _).cons_cons _
   · exact OutG.liR (.inr ⟨b3, c3, rfl, hc3, flatMap_len (fun y => y.len) _, rfl⟩) rfl rfl M0
theorem cloneS_ok {M : Hp} {l : List Sl} {v : Value} (hv : LiR Sl.cells 8 M l v) (hm : marksOf M = []) (hn : l.length ≤ 2199023255551) : CallsV Tryz.prog 65 [v] M (OutG 67 8 (l.flatMap Sl.cells) l.length) := by
 have ha : (l.flatMap Sl.cells).all oneC = true := slAll l
 have hlen := flatMap_len (c := Sl.cells) (s := 8) (fun y => y.len) l
 have hsrc := fun b e => (hv.app (N := [⟨b, 0, .vec 67 8 0, []⟩]) e).src (P := Tryz.prog) (xt := 29) (q := 8) (ag := true) (by simp only [push_cast, seval, reduceCtorEq])
 have hv' := hv
 obtain ⟨p, k, rfl, h0⟩ := hv'
 have e0 : p = none → l = [] := fun hp => by
  rcases h0 with h | ⟨b, o, h, -⟩
  · exact h
  · rw [hp] at h; cases h
 refine callsO gA1_ok Tryz.mix Tryz.pl65 Tryz.func65 rfl Tryz.ntmps65 Tryz.results65 rfl (by first | rfl | assumption) (Nat.le_of_ble_eq_true rfl) (by kernel_rfl) ?_
 cases p with
 | none =>
   obtain rfl := e0 rfl
   simp only [push_cast, seval, reduceCtorEq]
   exact ⟨[], List.nil_sublist _, .inl ⟨rfl, rfl, rfl, rfl⟩⟩
 | some a =>
   simp only [push_cast, seval, reduceCtorEq]
   intro b hb
   have hsrc' := hsrc b ⟨hb, trivial⟩
   simp only [List.cons_append, List.nil_append] at hsrc'
   simp only [push_cast, seval, reduceCtorEq, hsrc', ha]
   refine ⟨by unfold two47; omega, fun b2 c2 hb2 hc2 => ?_⟩
   exact ⟨[_], (List.nil_sublist _).cons_cons _, .inr ⟨b2, c2, rfl, hc2, hlen, rfl⟩⟩
theorem cloneS_R {M : Hp} {l : List Sl} {v : Value} (hv : LiR Sl.cells 8 M l v) (hn : l.length ≤ 2199023255551) : CallsR Tryz.prog 65 [v] M (fun u H => LiR Sl.cells 8 H l u) := fun M0 hr he =>
 (cloneS_ok (hv.congr he.symm) hr.marks hn).toK fun u N h => ⟨h.wr.1, h.wr.2, fun _ => h.liR rfl rfl M0⟩
theorem sown_ok {M : Hp} {x : Ac} {sv : Value} (hs : LiR Sl.cells 8 M x.slots sv) (hn : x.slots.length ≤ 2199023255551) : CallsR Tryz.prog 41 [.agg (x.cells sv).toArray] M (AcR x) := by
 intro M0 hr he
 have hm := hr.marks
 replace hs := hs.congr he.symm
 refine callsO gA1_ok Tryz.mix (fun i => if i = 1 then [(0, 9)] else Tryz.pl41 i) Tryz.func41 rfl Tryz.ntmps41 Tryz.results41 rfl (by first | rfl | assumption) (Nat.le_of_ble_eq_true rfl) (by kernel_rfl) ?_
 simp only [push_cast, seval, reduceCtorEq]
 intro b1 hb1 b2 hb2
 refine regO gA1_ok ?_
 have hL : freshN [⟨b2, 0, .cel 31, Ac.zeroC⟩, ⟨b1, 0, .cel 31, x.cells sv⟩] M0 := ⟨hb2.2.2, hb1, trivial⟩
 simp only [push_cast, seval, reduceCtorEq, hb2]
 refine useL [_, _] (cloneS_R hs hn) (LiR.rd _) hm hL fun v M' hg hL' hq => ?_
 obtain ⟨p, k, rfl⟩ := hq.slice
 simp only [push_cast, seval, reduceCtorEq, hb2]
 exact doneK2 [_, _] hg (AcR.rd x) ⟨_, rfl, hq⟩
end Go.Proofs.YtpcjmmdgopihcaaGreatDoor
