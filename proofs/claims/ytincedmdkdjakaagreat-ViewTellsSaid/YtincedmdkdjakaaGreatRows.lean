/-
  No cell of these rows narrows 'for every input' (looked for: loops, veiled, ifaces, maps, wideKeys, modest, calm, conditions, laid).
  DERIVED. THE GIVEN ROWS OF THIS SEAT. 7 by the template 'for every input the law returns true; each argument reads behind the call as it read before'; 0 by the template 'total and deterministic' (their statements: YtincedmdkdjakaaGreatTotals.lean).
  GIVEN WITH THE SEED: the statements are not yours to turn. If you find one false, say at which input.
  Laid BY PROGRAM, IN A SANDBOX (cutbox-rows.mjs): the forced cells as the released guide's own fill.sh prints them over the translation fb6427f78d35608b… (all of the seat's roots in one cut). By AI agents, Wed Nov 11 2026. No macro, syntax, notation, axiom, sorry.
-/
import Derived.Test.YtincedmdkdjakaaGreatChecked
import GoSem.Claim
import GoSem.ClaimJoined
import GoSem.ClaimMapViews
import Derived.JoinedTies
import Derived.KernelRfl
namespace Go.Proofs.YtincedmdkdjakaaGreat
/- THE CELL 'sum', in the pinned program and in every row, IS THE sha256 OF THE DUMP (.gsa) THAT YtincedmdkdjakaaGreatProg.lean LOADS. Nothing in Lean hashes anything: it is a label: what it is worth is what the hold of that sum in a sandbox is worth. -/
noncomputable def Tryz.pinned : Pinned := { name := "ytincedmdkdjakaagreat", sum := "fb6427f78d35608b5df3abf348c38937ee3f7e94e5492fda3cefb8268a08fb27", checked := Tryz.checked }
namespace Rows
def none {H : Type} : Left H := { results := [], args := [] }

/-- 'railheadlaw11.ViewHangs': WHATEVER THE INPUT: true; the input reads as it did. -/
def viewHangsSpec : ChangeSpec := { name := "viewHangs", fn := fun _ => fun
  | [d1, d2, d3, d4, d5] => { results := [.lit (.bool true)], args := [d1, d2, d3, d4, d5] }
  | _ => none }
def viewHangsRow : OpenClaim := { program := "ytincedmdkdjakaagreat", sum := "fb6427f78d35608b5df3abf348c38937ee3f7e94e5492fda3cefb8268a08fb27", func := "railhead/railheadlaw11.ViewHangs", spec := "viewHangs", inPlace := ["internal/bytealg.Compare", "slices.overlaps[railhead/api.Cell]", "slices.overlaps[railhead/api.Account]"], unfollowed := true, recurses := true, apart := false }
def ViewHangsSaid : Prop := viewHangsRow.holds Tryz.pinned (OpenSpec.ofChange viewHangsSpec)

/-- ITS FALSE NEIGHBOUR: 'it returns false'. Refute it at one input. -/
def viewHangsWrong : ChangeSpec := { name := "viewHangs", fn := fun _ => fun
  | [d1, d2, d3, d4, d5] => { results := [.lit (.bool false)], args := [d1, d2, d3, d4, d5] }
  | _ => none }
def ViewHangsWrongFalsely : Prop := viewHangsRow.holds Tryz.pinned (OpenSpec.ofChange viewHangsWrong)

/-- 'railheadlaw11.ViewMerges': WHATEVER THE INPUT: true; the input reads as it did. -/
def viewMergesSpec : ChangeSpec := { name := "viewMerges", fn := fun _ => fun
  | [d1, d2, d3] => { results := [.lit (.bool true)], args := [d1, d2, d3] }
  | _ => none }
def viewMergesRow : OpenClaim := { program := "ytincedmdkdjakaagreat", sum := "fb6427f78d35608b5df3abf348c38937ee3f7e94e5492fda3cefb8268a08fb27", func := "railhead/railheadlaw11.ViewMerges", spec := "viewMerges", inPlace := ["internal/bytealg.Compare", "slices.overlaps[railhead/api.Cell]", "slices.overlaps[railhead/api.Account]"], unfollowed := true, recurses := true, apart := false }
def ViewMergesSaid : Prop := viewMergesRow.holds Tryz.pinned (OpenSpec.ofChange viewMergesSpec)

/-- ITS FALSE NEIGHBOUR: 'it returns false'. Refute it at one input. -/
def viewMergesWrong : ChangeSpec := { name := "viewMerges", fn := fun _ => fun
  | [d1, d2, d3] => { results := [.lit (.bool false)], args := [d1, d2, d3] }
  | _ => none }
def ViewMergesWrongFalsely : Prop := viewMergesRow.holds Tryz.pinned (OpenSpec.ofChange viewMergesWrong)

/-- 'railheadlaw11.ViewApart': WHATEVER THE INPUT: true; the input reads as it did. -/
def viewApartSpec : ChangeSpec := { name := "viewApart", fn := fun _ => fun
  | [d1, d2, d3, d4, d5, d6] => { results := [.lit (.bool true)], args := [d1, d2, d3, d4, d5, d6] }
  | _ => none }
def viewApartRow : OpenClaim := { program := "ytincedmdkdjakaagreat", sum := "fb6427f78d35608b5df3abf348c38937ee3f7e94e5492fda3cefb8268a08fb27", func := "railhead/railheadlaw11.ViewApart", spec := "viewApart", inPlace := ["internal/bytealg.Compare", "slices.overlaps[railhead/api.Cell]", "slices.overlaps[railhead/api.Account]"], unfollowed := true, recurses := true, apart := false }
def ViewApartSaid : Prop := viewApartRow.holds Tryz.pinned (OpenSpec.ofChange viewApartSpec)

/-- ITS FALSE NEIGHBOUR: 'it returns false'. Refute it at one input. -/
def viewApartWrong : ChangeSpec := { name := "viewApart", fn := fun _ => fun
  | [d1, d2, d3, d4, d5, d6] => { results := [.lit (.bool false)], args := [d1, d2, d3, d4, d5, d6] }
  | _ => none }
def ViewApartWrongFalsely : Prop := viewApartRow.holds Tryz.pinned (OpenSpec.ofChange viewApartWrong)

/-- 'railheadlaw11.ViewAgain': WHATEVER THE INPUT: true; the input reads as it did. -/
def viewAgainSpec : ChangeSpec := { name := "viewAgain", fn := fun _ => fun
  | [d1, d2, d3, d4] => { results := [.lit (.bool true)], args := [d1, d2, d3, d4] }
  | _ => none }
def viewAgainRow : OpenClaim := { program := "ytincedmdkdjakaagreat", sum := "fb6427f78d35608b5df3abf348c38937ee3f7e94e5492fda3cefb8268a08fb27", func := "railhead/railheadlaw11.ViewAgain", spec := "viewAgain", inPlace := ["internal/bytealg.Compare", "slices.overlaps[railhead/api.Cell]", "slices.overlaps[railhead/api.Account]"], unfollowed := true, recurses := true, apart := false }
def ViewAgainSaid : Prop := viewAgainRow.holds Tryz.pinned (OpenSpec.ofChange viewAgainSpec)

/-- ITS FALSE NEIGHBOUR: 'it returns false'. Refute it at one input. -/
def viewAgainWrong : ChangeSpec := { name := "viewAgain", fn := fun _ => fun
  | [d1, d2, d3, d4] => { results := [.lit (.bool false)], args := [d1, d2, d3, d4] }
  | _ => none }
def ViewAgainWrongFalsely : Prop := viewAgainRow.holds Tryz.pinned (OpenSpec.ofChange viewAgainWrong)

/-- 'railheadlaw11.ViewTells': WHATEVER THE INPUT: true; the input reads as it did. -/
def viewTellsSpec : ChangeSpec := { name := "viewTells", fn := fun _ => fun
  | [d1, d2, d3, d4, d5, d6, d7, d8, d9] => { results := [.lit (.bool true)], args := [d1, d2, d3, d4, d5, d6, d7, d8, d9] }
  | _ => none }
def viewTellsRow : OpenClaim := { program := "ytincedmdkdjakaagreat", sum := "fb6427f78d35608b5df3abf348c38937ee3f7e94e5492fda3cefb8268a08fb27", func := "railhead/railheadlaw11.ViewTells", spec := "viewTells", inPlace := ["internal/bytealg.Compare", "slices.overlaps[railhead/api.Cell]", "slices.overlaps[railhead/api.Account]"], unfollowed := true, recurses := true, apart := false }
def ViewTellsSaid : Prop := viewTellsRow.holds Tryz.pinned (OpenSpec.ofChange viewTellsSpec)

/-- ITS FALSE NEIGHBOUR: 'it returns false'. Refute it at one input. -/
def viewTellsWrong : ChangeSpec := { name := "viewTells", fn := fun _ => fun
  | [d1, d2, d3, d4, d5, d6, d7, d8, d9] => { results := [.lit (.bool false)], args := [d1, d2, d3, d4, d5, d6, d7, d8, d9] }
  | _ => none }
def ViewTellsWrongFalsely : Prop := viewTellsRow.holds Tryz.pinned (OpenSpec.ofChange viewTellsWrong)

/-- 'railheadlaw11.ViewReads': WHATEVER THE INPUT: true; the input reads as it did. -/
def viewReadsSpec : ChangeSpec := { name := "viewReads", fn := fun _ => fun
  | [d1, d2, d3, d4, d5] => { results := [.lit (.bool true)], args := [d1, d2, d3, d4, d5] }
  | _ => none }
def viewReadsRow : OpenClaim := { program := "ytincedmdkdjakaagreat", sum := "fb6427f78d35608b5df3abf348c38937ee3f7e94e5492fda3cefb8268a08fb27", func := "railhead/railheadlaw11.ViewReads", spec := "viewReads", inPlace := ["internal/bytealg.Compare", "slices.overlaps[railhead/api.Cell]", "slices.overlaps[railhead/api.Account]"], unfollowed := true, recurses := true, apart := false }
def ViewReadsSaid : Prop := viewReadsRow.holds Tryz.pinned (OpenSpec.ofChange viewReadsSpec)

/-- ITS FALSE NEIGHBOUR: 'it returns false'. Refute it at one input. -/
def viewReadsWrong : ChangeSpec := { name := "viewReads", fn := fun _ => fun
  | [d1, d2, d3, d4, d5] => { results := [.lit (.bool false)], args := [d1, d2, d3, d4, d5] }
  | _ => none }
def ViewReadsWrongFalsely : Prop := viewReadsRow.holds Tryz.pinned (OpenSpec.ofChange viewReadsWrong)

/-- 'railheadlaw11.ViewLast': WHATEVER THE INPUT: true; the input reads as it did. -/
def viewLastSpec : ChangeSpec := { name := "viewLast", fn := fun _ => fun
  | [d1, d2, d3] => { results := [.lit (.bool true)], args := [d1, d2, d3] }
  | _ => none }
def viewLastRow : OpenClaim := { program := "ytincedmdkdjakaagreat", sum := "fb6427f78d35608b5df3abf348c38937ee3f7e94e5492fda3cefb8268a08fb27", func := "railhead/railheadlaw11.ViewLast", spec := "viewLast", inPlace := ["internal/bytealg.Compare", "slices.overlaps[railhead/api.Cell]", "slices.overlaps[railhead/api.Account]"], unfollowed := true, recurses := true, apart := false }
def ViewLastSaid : Prop := viewLastRow.holds Tryz.pinned (OpenSpec.ofChange viewLastSpec)

/-- ITS FALSE NEIGHBOUR: 'it returns false'. Refute it at one input. -/
def viewLastWrong : ChangeSpec := { name := "viewLast", fn := fun _ => fun
  | [d1, d2, d3] => { results := [.lit (.bool false)], args := [d1, d2, d3] }
  | _ => none }
def ViewLastWrongFalsely : Prop := viewLastRow.holds Tryz.pinned (OpenSpec.ofChange viewLastWrong)

/- THE SECOND FORM. 'bulk': how many values and letters a reading holds, each counted each time it is reached (what is shared counts as often as it is met; a slice's spare places count too). A statement '..UptoSaid' is the law's where the arguments, and the package variables that the reading takes, are together of bulk at most 1048576: NARROWER than '..Said'. Prove '..Said' where nothing that the law and all that it calls make is longer than what came in: it says more and counts as full. Else prove '..UptoSaid'. A law counts once. -/
mutual
def uptoBulk {H : Type} : DataW H → Nat
  | .lit (.string bytes) => bytes.length + 1
  | .lit _ => 1
  | .nil => 1
  | .ptr d => uptoBulk d + 1
  | .slice elems spare => uptoBulkAll elems + uptoBulkAll spare + 1
  | .agg parts => uptoBulkAll parts + 1
  | .iface _ d => uptoBulk d + 1
  | .map entries => uptoBulkEntries entries + 1
  | .held _ => 1
def uptoBulkAll {H : Type} : List (DataW H) → Nat
  | [] => 0
  | d :: r => uptoBulk d + uptoBulkAll r
def uptoBulkEntries {H : Type} : List (Lit × DataW H) → Nat
  | [] => 0
  | x :: r => uptoBulkEntry x + uptoBulkEntries r
def uptoBulkEntry {H : Type} : Lit × DataW H → Nat
  | (.string bytes, d) => bytes.length + uptoBulk d + 1
  | (_, d) => uptoBulk d + 1
 end
def uptoSmall : (H : Type) → List (DataW H) → Bool := fun _ ds => decide (uptoBulkAll ds ≤ 1048576)
def OpenSpec.upto (s : _root_.Go.ChangeSpec) : _root_.Go.OpenSpec := { _root_.Go.OpenSpec.ofChange s with cond := some uptoSmall }

/-- 'railheadlaw11.ViewHangs', WHERE WHAT IT READS IS OF BULK AT MOST 1048576: true; the input reads as it did. -/
def viewHangsUptoRow : OpenClaim := { program := "ytincedmdkdjakaagreat", sum := "fb6427f78d35608b5df3abf348c38937ee3f7e94e5492fda3cefb8268a08fb27", func := "railhead/railheadlaw11.ViewHangs", spec := "viewHangs", inPlace := ["internal/bytealg.Compare", "slices.overlaps[railhead/api.Cell]", "slices.overlaps[railhead/api.Account]"], unfollowed := true, recurses := true, apart := false, narrowed := true }
def ViewHangsUptoSaid : Prop := viewHangsUptoRow.holds Tryz.pinned (OpenSpec.upto viewHangsSpec)

/-- 'railheadlaw11.ViewMerges', WHERE WHAT IT READS IS OF BULK AT MOST 1048576: true; the input reads as it did. -/
def viewMergesUptoRow : OpenClaim := { program := "ytincedmdkdjakaagreat", sum := "fb6427f78d35608b5df3abf348c38937ee3f7e94e5492fda3cefb8268a08fb27", func := "railhead/railheadlaw11.ViewMerges", spec := "viewMerges", inPlace := ["internal/bytealg.Compare", "slices.overlaps[railhead/api.Cell]", "slices.overlaps[railhead/api.Account]"], unfollowed := true, recurses := true, apart := false, narrowed := true }
def ViewMergesUptoSaid : Prop := viewMergesUptoRow.holds Tryz.pinned (OpenSpec.upto viewMergesSpec)

/-- 'railheadlaw11.ViewApart', WHERE WHAT IT READS IS OF BULK AT MOST 1048576: true; the input reads as it did. -/
def viewApartUptoRow : OpenClaim := { program := "ytincedmdkdjakaagreat", sum := "fb6427f78d35608b5df3abf348c38937ee3f7e94e5492fda3cefb8268a08fb27", func := "railhead/railheadlaw11.ViewApart", spec := "viewApart", inPlace := ["internal/bytealg.Compare", "slices.overlaps[railhead/api.Cell]", "slices.overlaps[railhead/api.Account]"], unfollowed := true, recurses := true, apart := false, narrowed := true }
def ViewApartUptoSaid : Prop := viewApartUptoRow.holds Tryz.pinned (OpenSpec.upto viewApartSpec)

/-- 'railheadlaw11.ViewAgain', WHERE WHAT IT READS IS OF BULK AT MOST 1048576: true; the input reads as it did. -/
def viewAgainUptoRow : OpenClaim := { program := "ytincedmdkdjakaagreat", sum := "fb6427f78d35608b5df3abf348c38937ee3f7e94e5492fda3cefb8268a08fb27", func := "railhead/railheadlaw11.ViewAgain", spec := "viewAgain", inPlace := ["internal/bytealg.Compare", "slices.overlaps[railhead/api.Cell]", "slices.overlaps[railhead/api.Account]"], unfollowed := true, recurses := true, apart := false, narrowed := true }
def ViewAgainUptoSaid : Prop := viewAgainUptoRow.holds Tryz.pinned (OpenSpec.upto viewAgainSpec)

/-- 'railheadlaw11.ViewTells', WHERE WHAT IT READS IS OF BULK AT MOST 1048576: true; the input reads as it did. -/
def viewTellsUptoRow : OpenClaim := { program := "ytincedmdkdjakaagreat", sum := "fb6427f78d35608b5df3abf348c38937ee3f7e94e5492fda3cefb8268a08fb27", func := "railhead/railheadlaw11.ViewTells", spec := "viewTells", inPlace := ["internal/bytealg.Compare", "slices.overlaps[railhead/api.Cell]", "slices.overlaps[railhead/api.Account]"], unfollowed := true, recurses := true, apart := false, narrowed := true }
def ViewTellsUptoSaid : Prop := viewTellsUptoRow.holds Tryz.pinned (OpenSpec.upto viewTellsSpec)

/-- 'railheadlaw11.ViewReads', WHERE WHAT IT READS IS OF BULK AT MOST 1048576: true; the input reads as it did. -/
def viewReadsUptoRow : OpenClaim := { program := "ytincedmdkdjakaagreat", sum := "fb6427f78d35608b5df3abf348c38937ee3f7e94e5492fda3cefb8268a08fb27", func := "railhead/railheadlaw11.ViewReads", spec := "viewReads", inPlace := ["internal/bytealg.Compare", "slices.overlaps[railhead/api.Cell]", "slices.overlaps[railhead/api.Account]"], unfollowed := true, recurses := true, apart := false, narrowed := true }
def ViewReadsUptoSaid : Prop := viewReadsUptoRow.holds Tryz.pinned (OpenSpec.upto viewReadsSpec)

/-- 'railheadlaw11.ViewLast', WHERE WHAT IT READS IS OF BULK AT MOST 1048576: true; the input reads as it did. -/
def viewLastUptoRow : OpenClaim := { program := "ytincedmdkdjakaagreat", sum := "fb6427f78d35608b5df3abf348c38937ee3f7e94e5492fda3cefb8268a08fb27", func := "railhead/railheadlaw11.ViewLast", spec := "viewLast", inPlace := ["internal/bytealg.Compare", "slices.overlaps[railhead/api.Cell]", "slices.overlaps[railhead/api.Account]"], unfollowed := true, recurses := true, apart := false, narrowed := true }
def ViewLastUptoSaid : Prop := viewLastUptoRow.holds Tryz.pinned (OpenSpec.upto viewLastSpec)

end Rows
end Go.Proofs.YtincedmdkdjakaaGreat
