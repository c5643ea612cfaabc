/- Sc: texts as lists of bytes; memory: within, may, there, noughts, Cost. -/
import Derived.Test.YtfioapldbajpmaaDoorSb
import Derived.Laws.Strings
import Derived.Laws.Strings2
import Derived.Lib.Repeat
set_option linter.unusedSimpArgs false
set_option linter.unusedVariables false
namespace Go.Ev
def bs (l : List UInt8) : ByteArray := ⟨l.toArray⟩
theorem bs_of (b : ByteArray) : ∃ l, b = bs l := ⟨b.data.toList, by unfold bs; simp⟩
theorem bs_size (l : List UInt8) : (bs l).size = l.length := by simp [bs, ByteArray.size]
theorem bs_data (l : List UInt8) : (bs l).data.toList = l := by simp [bs]
theorem bs_toList (l : List UInt8) : (bs l).toList = l := by unfold bs; exact ByteArray.toList_mk l
theorem bs_extract (l : List UInt8) (i j : Nat) : (bs l).extract i j = bs ((l.drop i).take (j - i)) := ByteArray.extract_mk l i j
theorem bs_append (l m : List UInt8) : bs l ++ bs m = bs (l ++ m) := by
  have : (bs l ++ bs m).data = (bs (l ++ m)).data := by rw [ByteArray.data_append]; simp [bs]
  exact congrArg ByteArray.mk this
theorem bs_inj {l m : List UInt8} (h : bs l = bs m) : l = m := by rw [← bs_data l, h, bs_data]
theorem bs_nil : ({ data := #[] } : ByteArray) = bs [] := rfl
theorem bs_mk (l : List UInt8) : ({ data := l.toArray } : ByteArray) = bs l := rfl
attribute [push_cast] bs_size bs_data bs_toList bs_extract bs_append
def zeros (n : Nat) : List UInt8 := List.replicate n 0
theorem zeros_len (n : Nat) : (zeros n).length = n := by simp [zeros]
noncomputable def mayB : Nat → Bool := hid fun n => decide (n ≤ 1048576 ∧ n % 32 = 0)
theorem mayB_eq (n : Nat) : mayB n = decide (n ≤ 1048576 ∧ n % 32 = 0) := by unfold mayB; rw [hid_eq]
noncomputable def thereB : Nat → Int → Int → Bool := hid fun s a n => mayB s && decide (0 ≤ n ∧ 0 ≤ a ∧ a ≤ s ∧ n ≤ s - a)
theorem thereB_eq (s : Nat) (a n : Int) : thereB s a n = (mayB s && decide (0 ≤ n ∧ 0 ≤ a ∧ a ≤ s ∧ n ≤ s - a)) := by unfold thereB; rw [hid_eq]
noncomputable def withI : Int → Int → Int → Int := hid fun x l m => if l ≤ (if x ≤ m then x else m) then (if x ≤ m then x else m) else l
theorem withI_eq (x l m : Int) : withI x l m = if l ≤ (if x ≤ m then x else m) then (if x ≤ m then x else m) else l := by unfold withI; rw [hid_eq]
noncomputable def nB : Int → Bool := hid fun n => decide (-4611686018427387904 ≤ n ∧ n ≤ 1099511627776)
theorem nB_eq (n : Int) : nB n = decide (-4611686018427387904 ≤ n ∧ n ≤ 1099511627776) := by unfold nB; rw [hid_eq]
theorem nB_in {n : Int} (h : -4611686018427387904 ≤ n ∧ n ≤ 1099511627776) : nB n = true := by rw [nB_eq, decide_eq_true h]
noncomputable def costI : Int → Int := hid fun n => 3 * withI n 0 32768 + withI n 0 32768 * withI n 0 32768 / 512
theorem costI_eq (n : Int) : costI n = 3 * withI n 0 32768 + withI n 0 32768 * withI n 0 32768 / 512 := by unfold costI; rw [hid_eq]
noncomputable def mayG : List Value → Option Value
  | [.string b] => some (.bool (mayB b.size))
  | _ => none
noncomputable def thereG : List Value → Option Value
  | [.string b, .int .i64 a, .int .i64 n] => some (.bool (thereB b.size a n))
  | _ => none
noncomputable def withG : List Value → Option Value
  | [.int .i64 x, .int .i64 l, .int .i64 m] => some (.int .i64 (withI x l m))
  | _ => none
noncomputable def noughtsG : List Value → Option Value
  | [.int .i64 n] => if nB n then some (.string (bs (zeros n.toNat))) else none
  | _ => none
noncomputable def costG : List Value → Option Value
  | [.int .i64 n] => some (.int .i64 (costI n))
  | _ => none
attribute [push_cast] mayG thereG withG noughtsG costG
theorem CallsV.of_calls {P : Program} {g : FuncId} {args : List Value} {v : Value} (he : ∀ (xs : Array Value) (w : World), (callFunc g xs).run P w = .ok (.enter g xs) w)
    (h : ∀ w, Calls P g args.toArray w fun e w' => e = .returned v ∧ RowKit.Below w.heap.size w w') : CallsV P g args [] (Ret0 v) := by
  refine ⟨he, fun w0 mu w hs => ?_⟩
  have h2 : CallsIn (Fr none) 0 P g args.toArray w fun e w' => e = .returned v ∧ RowKit.Below w.heap.size w w' := callsIn_wide.2 (h w)
  refine h2.mono ?_
  rintro e w' ⟨rfl, hb⟩
  refine ⟨v, [], rfl, ⟨rfl, rfl⟩, ⟨hb.os.trans hs.os, hb.tape.trans hs.tape, hb.output.trans hs.output, Nat.le_trans hs.size hb.size, fun b hbl hm => ?_, (fun e he => by cases he), (fun e he => by cases he), List.Pairwise.nil⟩, rfl⟩
  rw [hb.block b (Nat.lt_of_lt_of_le hbl hs.size)]
  exact hs.old b hbl hm
end Go.Ev
namespace Go.Proofs.YtfioapldbajpmaaDoor
open Go Go.Ev Go.Proofs
set_option maxRecDepth 100000
set_option maxHeartbeats 4000000
end Go.Proofs.YtfioapldbajpmaaDoor
