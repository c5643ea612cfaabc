/-
  No cell of these rows narrows 'for every input' (looked for: loops, veiled, ifaces, maps, wideKeys, modest, calm, conditions, laid).
  DERIVED. THE GIVEN ROWS OF THIS SEAT. 6 by the template 'for every input the law returns true; each argument reads behind the call as it read before'; 0 by the template 'total and deterministic' (their statements: YtbpnjkedflkabaaTotals.lean).
  GIVEN WITH THE SEED: the statements are not yours to turn. If you find one false, say at which input.
  Laid BY PROGRAM, IN A SANDBOX (cutbox-rows.mjs): the forced cells as the released guide's own fill.sh prints them over the translation 90a72b41c296827f… (all of the seat's roots in one cut). By AI agents, Wed Nov 11 2026. No macro, syntax, notation, axiom, sorry.
-/
import Derived.Test.YtbpnjkedflkabaaChecked
import GoSem.Claim
import GoSem.ClaimJoined
import GoSem.ClaimMapViews
import Derived.JoinedTies
import Derived.KernelRfl
namespace Go.Proofs.Ytbpnjkedflkabaa
/- THE CELL 'sum', in the pinned program and in every row, IS THE sha256 OF THE DUMP (.gsa) THAT YtbpnjkedflkabaaProg.lean LOADS. Nothing in Lean hashes anything: it is a label: what it is worth is what the hold of that sum in a sandbox is worth. -/
noncomputable def Try.pinned : Pinned := { name := "ytbpnjkedflkabaa", sum := "90a72b41c296827f6eb931ec3aa4299eb9c2f9cff6a1464890d89988c5da8252", checked := Try.checked }
namespace Rows
def none {H : Type} : Left H := { results := [], args := [] }

/-- 'railheadlaw02.DivideTells': WHATEVER THE INPUT: true; the input reads as it did. -/
def divideTellsSpec : ChangeSpec := { name := "divideTells", fn := fun _ => fun
  | [d1, d2, d3] => { results := [.lit (.bool true)], args := [d1, d2, d3] }
  | _ => none }
def divideTellsRow : OpenClaim := { program := "ytbpnjkedflkabaa", sum := "90a72b41c296827f6eb931ec3aa4299eb9c2f9cff6a1464890d89988c5da8252", func := "railhead/railheadlaw02.DivideTells", spec := "divideTells", inPlace := ["math/bits.Sub64", "math/bits.Add64"], unfollowed := true, recurses := true, apart := false }
def DivideTellsSaid : Prop := divideTellsRow.holds Try.pinned (OpenSpec.ofChange divideTellsSpec)

/-- ITS FALSE NEIGHBOUR: 'it returns false'. Refute it at one input. -/
def divideTellsWrong : ChangeSpec := { name := "divideTells", fn := fun _ => fun
  | [d1, d2, d3] => { results := [.lit (.bool false)], args := [d1, d2, d3] }
  | _ => none }
def DivideTellsWrongFalsely : Prop := divideTellsRow.holds Try.pinned (OpenSpec.ofChange divideTellsWrong)

/-- 'railheadlaw02.DivideBack': WHATEVER THE INPUT: true; the input reads as it did. -/
def divideBackSpec : ChangeSpec := { name := "divideBack", fn := fun _ => fun
  | [d1, d2] => { results := [.lit (.bool true)], args := [d1, d2] }
  | _ => none }
def divideBackRow : OpenClaim := { program := "ytbpnjkedflkabaa", sum := "90a72b41c296827f6eb931ec3aa4299eb9c2f9cff6a1464890d89988c5da8252", func := "railhead/railheadlaw02.DivideBack", spec := "divideBack", inPlace := ["math/bits.Sub64", "math/bits.Add64"], unfollowed := true, recurses := true, apart := false }
def DivideBackSaid : Prop := divideBackRow.holds Try.pinned (OpenSpec.ofChange divideBackSpec)

/-- ITS FALSE NEIGHBOUR: 'it returns false'. Refute it at one input. -/
def divideBackWrong : ChangeSpec := { name := "divideBack", fn := fun _ => fun
  | [d1, d2] => { results := [.lit (.bool false)], args := [d1, d2] }
  | _ => none }
def DivideBackWrongFalsely : Prop := divideBackRow.holds Try.pinned (OpenSpec.ofChange divideBackWrong)

/-- 'railheadlaw02.DivideSums': WHATEVER THE INPUT: true; the input reads as it did. -/
def divideSumsSpec : ChangeSpec := { name := "divideSums", fn := fun _ => fun
  | [d1, d2, d3] => { results := [.lit (.bool true)], args := [d1, d2, d3] }
  | _ => none }
def divideSumsRow : OpenClaim := { program := "ytbpnjkedflkabaa", sum := "90a72b41c296827f6eb931ec3aa4299eb9c2f9cff6a1464890d89988c5da8252", func := "railhead/railheadlaw02.DivideSums", spec := "divideSums", inPlace := ["math/bits.Sub64", "math/bits.Add64"], unfollowed := true, recurses := true, apart := false }
def DivideSumsSaid : Prop := divideSumsRow.holds Try.pinned (OpenSpec.ofChange divideSumsSpec)

/-- ITS FALSE NEIGHBOUR: 'it returns false'. Refute it at one input. -/
def divideSumsWrong : ChangeSpec := { name := "divideSums", fn := fun _ => fun
  | [d1, d2, d3] => { results := [.lit (.bool false)], args := [d1, d2, d3] }
  | _ => none }
def DivideSumsWrongFalsely : Prop := divideSumsRow.holds Try.pinned (OpenSpec.ofChange divideSumsWrong)

/-- 'railheadlaw02.DividePowers': WHATEVER THE INPUT: true; the input reads as it did. -/
def dividePowersSpec : ChangeSpec := { name := "dividePowers", fn := fun _ => fun
  | [d1, d2, d3] => { results := [.lit (.bool true)], args := [d1, d2, d3] }
  | _ => none }
def dividePowersRow : OpenClaim := { program := "ytbpnjkedflkabaa", sum := "90a72b41c296827f6eb931ec3aa4299eb9c2f9cff6a1464890d89988c5da8252", func := "railhead/railheadlaw02.DividePowers", spec := "dividePowers", inPlace := ["math/bits.Sub64", "math/bits.Add64"], unfollowed := true, recurses := true, apart := false }
def DividePowersSaid : Prop := dividePowersRow.holds Try.pinned (OpenSpec.ofChange dividePowersSpec)

/-- ITS FALSE NEIGHBOUR: 'it returns false'. Refute it at one input. -/
def dividePowersWrong : ChangeSpec := { name := "dividePowers", fn := fun _ => fun
  | [d1, d2, d3] => { results := [.lit (.bool false)], args := [d1, d2, d3] }
  | _ => none }
def DividePowersWrongFalsely : Prop := dividePowersRow.holds Try.pinned (OpenSpec.ofChange dividePowersWrong)

/-- 'railheadlaw02.DivideSmall': WHATEVER THE INPUT: true; the input reads as it did. -/
def divideSmallSpec : ChangeSpec := { name := "divideSmall", fn := fun _ => fun
  | [d1, d2, d3] => { results := [.lit (.bool true)], args := [d1, d2, d3] }
  | _ => none }
def divideSmallRow : OpenClaim := { program := "ytbpnjkedflkabaa", sum := "90a72b41c296827f6eb931ec3aa4299eb9c2f9cff6a1464890d89988c5da8252", func := "railhead/railheadlaw02.DivideSmall", spec := "divideSmall", inPlace := ["math/bits.Sub64", "math/bits.Add64"], unfollowed := true, recurses := true, apart := false }
def DivideSmallSaid : Prop := divideSmallRow.holds Try.pinned (OpenSpec.ofChange divideSmallSpec)

/-- ITS FALSE NEIGHBOUR: 'it returns false'. Refute it at one input. -/
def divideSmallWrong : ChangeSpec := { name := "divideSmall", fn := fun _ => fun
  | [d1, d2, d3] => { results := [.lit (.bool false)], args := [d1, d2, d3] }
  | _ => none }
def DivideSmallWrongFalsely : Prop := divideSmallRow.holds Try.pinned (OpenSpec.ofChange divideSmallWrong)

/-- 'railheadlaw02.DivideGreat': WHATEVER THE INPUT: true; the input reads as it did. -/
def divideGreatSpec : ChangeSpec := { name := "divideGreat", fn := fun _ => fun
  | [d1, d2, d3] => { results := [.lit (.bool true)], args := [d1, d2, d3] }
  | _ => none }
def divideGreatRow : OpenClaim := { program := "ytbpnjkedflkabaa", sum := "90a72b41c296827f6eb931ec3aa4299eb9c2f9cff6a1464890d89988c5da8252", func := "railhead/railheadlaw02.DivideGreat", spec := "divideGreat", inPlace := ["math/bits.Sub64", "math/bits.Add64"], unfollowed := true, recurses := true, apart := false }
def DivideGreatSaid : Prop := divideGreatRow.holds Try.pinned (OpenSpec.ofChange divideGreatSpec)

/-- ITS FALSE NEIGHBOUR: 'it returns false'. Refute it at one input. -/
def divideGreatWrong : ChangeSpec := { name := "divideGreat", fn := fun _ => fun
  | [d1, d2, d3] => { results := [.lit (.bool false)], args := [d1, d2, d3] }
  | _ => none }
def DivideGreatWrongFalsely : Prop := divideGreatRow.holds Try.pinned (OpenSpec.ofChange divideGreatWrong)

/- THE SECOND FORM. 'bulk': how many values and letters a reading holds, each counted each time it is reached (what is shared counts as often as it is met; a slice's spare places count too). A statement '..UptoSaid' is the law's where the arguments, and the package variables that the reading takes, are together of bulk at most 1048576: NARROWER than '..Said'. Prove '..Said' where nothing that the law and all that it calls make is longer than what came in: it says more and counts as full. Else prove '..UptoSaid'. A law counts once. -/
mutual
def uptoBulk {H : Type} : DataW H → Nat
  | .lit (.string bytes) => bytes.length + 1
  | .lit _ => 1
  | .nil => 1
  | .ptr d => uptoBulk d + 1
  | .slice elems spare => uptoBulkAll elems + uptoBulkAll spare + 1
  | .agg parts => uptoBulkAll parts + 1
  | .iface _ d => uptoBulk d + 1
  | .map entries => uptoBulkEntries entries + 1
  | .held _ => 1
def uptoBulkAll {H : Type} : List (DataW H) → Nat
  | [] => 0
  | d :: r => uptoBulk d + uptoBulkAll r
def uptoBulkEntries {H : Type} : List (Lit × DataW H) → Nat
  | [] => 0
  | x :: r => uptoBulkEntry x + uptoBulkEntries r
def uptoBulkEntry {H : Type} : Lit × DataW H → Nat
  | (.string bytes, d) => bytes.length + uptoBulk d + 1
  | (_, d) => uptoBulk d + 1
 end
def uptoSmall : (H : Type) → List (DataW H) → Bool := fun _ ds => decide (uptoBulkAll ds ≤ 1048576)
def OpenSpec.upto (s : _root_.Go.ChangeSpec) : _root_.Go.OpenSpec := { _root_.Go.OpenSpec.ofChange s with cond := some uptoSmall }

/-- 'railheadlaw02.DivideTells', WHERE WHAT IT READS IS OF BULK AT MOST 1048576: true; the input reads as it did. -/
def divideTellsUptoRow : OpenClaim := { program := "ytbpnjkedflkabaa", sum := "90a72b41c296827f6eb931ec3aa4299eb9c2f9cff6a1464890d89988c5da8252", func := "railhead/railheadlaw02.DivideTells", spec := "divideTells", inPlace := ["math/bits.Sub64", "math/bits.Add64"], unfollowed := true, recurses := true, apart := false, narrowed := true }
def DivideTellsUptoSaid : Prop := divideTellsUptoRow.holds Try.pinned (OpenSpec.upto divideTellsSpec)

/-- 'railheadlaw02.DivideBack', WHERE WHAT IT READS IS OF BULK AT MOST 1048576: true; the input reads as it did. -/
def divideBackUptoRow : OpenClaim := { program := "ytbpnjkedflkabaa", sum := "90a72b41c296827f6eb931ec3aa4299eb9c2f9cff6a1464890d89988c5da8252", func := "railhead/railheadlaw02.DivideBack", spec := "divideBack", inPlace := ["math/bits.Sub64", "math/bits.Add64"], unfollowed := true, recurses := true, apart := false, narrowed := true }
def DivideBackUptoSaid : Prop := divideBackUptoRow.holds Try.pinned (OpenSpec.upto divideBackSpec)

/-- 'railheadlaw02.DivideSums', WHERE WHAT IT READS IS OF BULK AT MOST 1048576: true; the input reads as it did. -/
def divideSumsUptoRow : OpenClaim := { program := "ytbpnjkedflkabaa", sum := "90a72b41c296827f6eb931ec3aa4299eb9c2f9cff6a1464890d89988c5da8252", func := "railhead/railheadlaw02.DivideSums", spec := "divideSums", inPlace := ["math/bits.Sub64", "math/bits.Add64"], unfollowed := true, recurses := true, apart := false, narrowed := true }
def DivideSumsUptoSaid : Prop := divideSumsUptoRow.holds Try.pinned (OpenSpec.upto divideSumsSpec)

/-- 'railheadlaw02.DividePowers', WHERE WHAT IT READS IS OF BULK AT MOST 1048576: true; the input reads as it did. -/
def dividePowersUptoRow : OpenClaim := { program := "ytbpnjkedflkabaa", sum := "90a72b41c296827f6eb931ec3aa4299eb9c2f9cff6a1464890d89988c5da8252", func := "railhead/railheadlaw02.DividePowers", spec := "dividePowers", inPlace := ["math/bits.Sub64", "math/bits.Add64"], unfollowed := true, recurses := true, apart := false, narrowed := true }
def DividePowersUptoSaid : Prop := dividePowersUptoRow.holds Try.pinned (OpenSpec.upto dividePowersSpec)

/-- 'railheadlaw02.DivideSmall', WHERE WHAT IT READS IS OF BULK AT MOST 1048576: true; the input reads as it did. -/
def divideSmallUptoRow : OpenClaim := { program := "ytbpnjkedflkabaa", sum := "90a72b41c296827f6eb931ec3aa4299eb9c2f9cff6a1464890d89988c5da8252", func := "railhead/railheadlaw02.DivideSmall", spec := "divideSmall", inPlace := ["math/bits.Sub64", "math/bits.Add64"], unfollowed := true, recurses := true, apart := false, narrowed := true }
def DivideSmallUptoSaid : Prop := divideSmallUptoRow.holds Try.pinned (OpenSpec.upto divideSmallSpec)

/-- 'railheadlaw02.DivideGreat', WHERE WHAT IT READS IS OF BULK AT MOST 1048576: true; the input reads as it did. -/
def divideGreatUptoRow : OpenClaim := { program := "ytbpnjkedflkabaa", sum := "90a72b41c296827f6eb931ec3aa4299eb9c2f9cff6a1464890d89988c5da8252", func := "railhead/railheadlaw02.DivideGreat", spec := "divideGreat", inPlace := ["math/bits.Sub64", "math/bits.Add64"], unfollowed := true, recurses := true, apart := false, narrowed := true }
def DivideGreatUptoSaid : Prop := divideGreatUptoRow.holds Try.pinned (OpenSpec.upto divideGreatSpec)

end Rows
end Go.Proofs.Ytbpnjkedflkabaa
