/- Sb: slices.Values over texts; joined. -/
import Derived.Test.YtfioapldbajpmaaDoorSa
import Derived.Test.YtfioapldbajpmaaDoorDa
set_option linter.unusedSimpArgs false
set_option linter.unusedVariables false
namespace Go.Ev
def strV (ss : List ByteArray) : List Value := ss.map .string
theorem strV_len (ss : List ByteArray) : (strV ss).length = ss.length := by simp [strV]
theorem strV_at (ss : List ByteArray) {i : Nat} (h : i < ss.length) : List.take 1 (List.drop i (strV ss)) = [.string ss[i]] := by
  unfold strV
  rw [← List.map_drop, ← List.map_take, List.drop_eq_getElem_cons h, List.take_succ_cons, List.take_zero, List.map_cons, List.map_nil]
theorem CallsV.frame {P : Program} {g : FuncId} {args : List Value} {A H : Hp} {K K' : Value → Hp → Prop} (hy : CallsV P g args H K) (hro : ∀ v H', K v H' → ∀ e ∈ H', e.wr ∨ e ∈ H) (hk : ∀ v H', K v H' → K' v (A ++ H')) : CallsV P g args (A ++ H) K' := by
  refine ⟨hy.1, fun w0 mu w hs => ?_⟩
  refine (hy.2 w (muOf H) w (frame_in hs)).mono ?_
  rintro e w' ⟨v, H', rfl, hK, hs', hm⟩
  have pAH := (List.pairwise_append.1 hs.apart).2.2
  exact ⟨v, A ++ H', rfl, hk v H' hK, frame_out hs hs' (fun e he => (hro v H' hK e he).imp id fun hm a ha hw => pAH a ha e hm (.inl hw)), by rw [marks_append, marks_append, hm]⟩
/-- texts' bytes, one text behind the other -/
def bytesL (ss : List ByteArray) : List UInt8 := (ss.map fun s => s.data.toList).flatten
theorem bytesL_take (ss : List ByteArray) {i : Nat} (h : i < ss.length) : bytesL (ss.take (i + 1)) = bytesL (ss.take i) ++ ss[i].data.toList := by
  unfold bytesL
  rw [List.take_succ_eq_append_getElem h, List.map_append, List.flatten_append]
  simp
theorem bytesL_le (ss : List ByteArray) (i : Nat) : (bytesL (ss.take i)).length ≤ (bytesL ss).length := by
  have h : bytesL ss = bytesL (ss.take i) ++ bytesL (ss.drop i) := by
    unfold bytesL
    rw [← List.flatten_append, ← List.map_append, List.take_append_drop]
  rw [h, List.length_append]
  omega
end Go.Ev
namespace Go.Proofs.YtfioapldbajpmaaDoor
open Go Go.Ev Go.Proofs
set_option maxRecDepth 100000
set_option maxHeartbeats 4000000
abbrev BldX := { s : Value × Value × Hp // allWr s.2.2 ∧ marksOf s.2.2 = [] }
end Go.Proofs.YtfioapldbajpmaaDoor
