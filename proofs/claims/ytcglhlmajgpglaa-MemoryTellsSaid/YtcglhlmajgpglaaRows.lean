/-
  No cell of these rows narrows 'for every input' (looked for: loops, veiled, ifaces, maps, wideKeys, modest, calm, conditions, laid).
  DERIVED. THE GIVEN ROWS OF THIS SEAT. 5 by the template 'for every input the law returns true; each argument reads behind the call as it read before'; 0 by the template 'total and deterministic' (their statements: YtcglhlmajgpglaaTotals.lean).
  GIVEN WITH THE SEED: the statements are not yours to turn. If you find one false, say at which input.
  Laid BY PROGRAM, IN A SANDBOX (cutbox-rows.mjs): the forced cells as the released guide's own fill.sh prints them over the translation 979bafc12b568c95… (all of the seat's roots in one cut). By AI agents, Wed Nov 11 2026. No macro, syntax, notation, axiom, sorry.
-/
import Derived.Test.YtcglhlmajgpglaaChecked
import GoSem.Claim
import GoSem.ClaimJoined
import GoSem.ClaimMapViews
import Derived.JoinedTies
import Derived.KernelRfl
namespace Go.Proofs.Ytcglhlmajgpglaa
/- THE CELL 'sum', in the pinned program and in every row, IS THE sha256 OF THE DUMP (.gsa) THAT YtcglhlmajgpglaaProg.lean LOADS. Nothing in Lean hashes anything: it is a label: what it is worth is what the hold of that sum in a sandbox is worth. -/
noncomputable def Try.pinned : Pinned := { name := "ytcglhlmajgpglaa", sum := "979bafc12b568c95b9bab0e0f98e2aff72ff9e5daa1a838881658c5b25968b53", checked := Try.checked }
namespace Rows
def none {H : Type} : Left H := { results := [], args := [] }

/-- 'railheadlaw12.MemoryGrows': WHATEVER THE INPUT: true; the input reads as it did. -/
def memoryGrowsSpec : ChangeSpec := { name := "memoryGrows", fn := fun _ => fun
  | [d1, d2, d3, d4] => { results := [.lit (.bool true)], args := [d1, d2, d3, d4] }
  | _ => none }
def memoryGrowsRow : OpenClaim := { program := "ytcglhlmajgpglaa", sum := "979bafc12b568c95b9bab0e0f98e2aff72ff9e5daa1a838881658c5b25968b53", func := "railhead/railheadlaw12.MemoryGrows", spec := "memoryGrows", inPlace := ["internal/abi.NoEscape", "internal/bytealg.MakeNoZero", "math/bits.Add64"], unfollowed := true, recurses := true, apart := false }
def MemoryGrowsSaid : Prop := memoryGrowsRow.holds Try.pinned (OpenSpec.ofChange memoryGrowsSpec)

/-- ITS FALSE NEIGHBOUR: 'it returns false'. Refute it at one input. -/
def memoryGrowsWrong : ChangeSpec := { name := "memoryGrows", fn := fun _ => fun
  | [d1, d2, d3, d4] => { results := [.lit (.bool false)], args := [d1, d2, d3, d4] }
  | _ => none }
def MemoryGrowsWrongFalsely : Prop := memoryGrowsRow.holds Try.pinned (OpenSpec.ofChange memoryGrowsWrong)

/-- 'railheadlaw12.MemoryPieces': WHATEVER THE INPUT: true; the input reads as it did. -/
def memoryPiecesSpec : ChangeSpec := { name := "memoryPieces", fn := fun _ => fun
  | [d1, d2, d3, d4] => { results := [.lit (.bool true)], args := [d1, d2, d3, d4] }
  | _ => none }
def memoryPiecesRow : OpenClaim := { program := "ytcglhlmajgpglaa", sum := "979bafc12b568c95b9bab0e0f98e2aff72ff9e5daa1a838881658c5b25968b53", func := "railhead/railheadlaw12.MemoryPieces", spec := "memoryPieces", inPlace := ["internal/abi.NoEscape", "internal/bytealg.MakeNoZero", "math/bits.Add64"], unfollowed := true, recurses := true, apart := false }
def MemoryPiecesSaid : Prop := memoryPiecesRow.holds Try.pinned (OpenSpec.ofChange memoryPiecesSpec)

/-- ITS FALSE NEIGHBOUR: 'it returns false'. Refute it at one input. -/
def memoryPiecesWrong : ChangeSpec := { name := "memoryPieces", fn := fun _ => fun
  | [d1, d2, d3, d4] => { results := [.lit (.bool false)], args := [d1, d2, d3, d4] }
  | _ => none }
def MemoryPiecesWrongFalsely : Prop := memoryPiecesRow.holds Try.pinned (OpenSpec.ofChange memoryPiecesWrong)

/-- 'railheadlaw12.MemoryCosts': WHATEVER THE INPUT: true; the input reads as it did. -/
def memoryCostsSpec : ChangeSpec := { name := "memoryCosts", fn := fun _ => fun
  | [d] => { results := [.lit (.bool true)], args := [d] }
  | _ => none }
def memoryCostsRow : OpenClaim := { program := "ytcglhlmajgpglaa", sum := "979bafc12b568c95b9bab0e0f98e2aff72ff9e5daa1a838881658c5b25968b53", func := "railhead/railheadlaw12.MemoryCosts", spec := "memoryCosts", inPlace := ["internal/abi.NoEscape", "internal/bytealg.MakeNoZero", "math/bits.Add64"], unfollowed := true, recurses := true, apart := false }
def MemoryCostsSaid : Prop := memoryCostsRow.holds Try.pinned (OpenSpec.ofChange memoryCostsSpec)

/-- ITS FALSE NEIGHBOUR: 'it returns false'. Refute it at one input. -/
def memoryCostsWrong : ChangeSpec := { name := "memoryCosts", fn := fun _ => fun
  | [d] => { results := [.lit (.bool false)], args := [d] }
  | _ => none }
def MemoryCostsWrongFalsely : Prop := memoryCostsRow.holds Try.pinned (OpenSpec.ofChange memoryCostsWrong)

/-- 'railheadlaw12.MemoryTells': WHATEVER THE INPUT: true; the input reads as it did. -/
def memoryTellsSpec : ChangeSpec := { name := "memoryTells", fn := fun _ => fun
  | [d1, d2, d3, d4, d5, d6, d7] => { results := [.lit (.bool true)], args := [d1, d2, d3, d4, d5, d6, d7] }
  | _ => none }
def memoryTellsRow : OpenClaim := { program := "ytcglhlmajgpglaa", sum := "979bafc12b568c95b9bab0e0f98e2aff72ff9e5daa1a838881658c5b25968b53", func := "railhead/railheadlaw12.MemoryTells", spec := "memoryTells", inPlace := ["internal/abi.NoEscape", "internal/bytealg.MakeNoZero", "math/bits.Add64"], unfollowed := true, recurses := true, apart := false }
def MemoryTellsSaid : Prop := memoryTellsRow.holds Try.pinned (OpenSpec.ofChange memoryTellsSpec)

/-- ITS FALSE NEIGHBOUR: 'it returns false'. Refute it at one input. -/
def memoryTellsWrong : ChangeSpec := { name := "memoryTells", fn := fun _ => fun
  | [d1, d2, d3, d4, d5, d6, d7] => { results := [.lit (.bool false)], args := [d1, d2, d3, d4, d5, d6, d7] }
  | _ => none }
def MemoryTellsWrongFalsely : Prop := memoryTellsRow.holds Try.pinned (OpenSpec.ofChange memoryTellsWrong)

/-- 'railheadlaw12.MemoryBack': WHATEVER THE INPUT: true; the input reads as it did. -/
def memoryBackSpec : ChangeSpec := { name := "memoryBack", fn := fun _ => fun
  | [d1, d2, d3, d4, d5] => { results := [.lit (.bool true)], args := [d1, d2, d3, d4, d5] }
  | _ => none }
def memoryBackRow : OpenClaim := { program := "ytcglhlmajgpglaa", sum := "979bafc12b568c95b9bab0e0f98e2aff72ff9e5daa1a838881658c5b25968b53", func := "railhead/railheadlaw12.MemoryBack", spec := "memoryBack", inPlace := ["internal/abi.NoEscape", "internal/bytealg.MakeNoZero", "math/bits.Add64"], unfollowed := true, recurses := true, apart := false }
def MemoryBackSaid : Prop := memoryBackRow.holds Try.pinned (OpenSpec.ofChange memoryBackSpec)

/-- ITS FALSE NEIGHBOUR: 'it returns false'. Refute it at one input. -/
def memoryBackWrong : ChangeSpec := { name := "memoryBack", fn := fun _ => fun
  | [d1, d2, d3, d4, d5] => { results := [.lit (.bool false)], args := [d1, d2, d3, d4, d5] }
  | _ => none }
def MemoryBackWrongFalsely : Prop := memoryBackRow.holds Try.pinned (OpenSpec.ofChange memoryBackWrong)

/- THE SECOND FORM. 'bulk': how many values and letters a reading holds, each counted each time it is reached (what is shared counts as often as it is met; a slice's spare places count too). A statement '..UptoSaid' is the law's where the arguments, and the package variables that the reading takes, are together of bulk at most 1048576: NARROWER than '..Said'. Prove '..Said' where nothing that the law and all that it calls make is longer than what came in: it says more and counts as full. Else prove '..UptoSaid'. A law counts once. -/
mutual
def uptoBulk {H : Type} : DataW H → Nat
  | .lit (.string bytes) => bytes.length + 1
  | .lit _ => 1
  | .nil => 1
  | .ptr d => uptoBulk d + 1
  | .slice elems spare => uptoBulkAll elems + uptoBulkAll spare + 1
  | .agg parts => uptoBulkAll parts + 1
  | .iface _ d => uptoBulk d + 1
  | .map entries => uptoBulkEntries entries + 1
  | .held _ => 1
def uptoBulkAll {H : Type} : List (DataW H) → Nat
  | [] => 0
  | d :: r => uptoBulk d + uptoBulkAll r
def uptoBulkEntries {H : Type} : List (Lit × DataW H) → Nat
  | [] => 0
  | x :: r => uptoBulkEntry x + uptoBulkEntries r
def uptoBulkEntry {H : Type} : Lit × DataW H → Nat
  | (.string bytes, d) => bytes.length + uptoBulk d + 1
  | (_, d) => uptoBulk d + 1
 end
def uptoSmall : (H : Type) → List (DataW H) → Bool := fun _ ds => decide (uptoBulkAll ds ≤ 1048576)
def OpenSpec.upto (s : _root_.Go.ChangeSpec) : _root_.Go.OpenSpec := { _root_.Go.OpenSpec.ofChange s with cond := some uptoSmall }

/-- 'railheadlaw12.MemoryGrows', WHERE WHAT IT READS IS OF BULK AT MOST 1048576: true; the input reads as it did. -/
def memoryGrowsUptoRow : OpenClaim := { program := "ytcglhlmajgpglaa", sum := "979bafc12b568c95b9bab0e0f98e2aff72ff9e5daa1a838881658c5b25968b53", func := "railhead/railheadlaw12.MemoryGrows", spec := "memoryGrows", inPlace := ["internal/abi.NoEscape", "internal/bytealg.MakeNoZero", "math/bits.Add64"], unfollowed := true, recurses := true, apart := false, narrowed := true }
def MemoryGrowsUptoSaid : Prop := memoryGrowsUptoRow.holds Try.pinned (OpenSpec.upto memoryGrowsSpec)

/-- 'railheadlaw12.MemoryPieces', WHERE WHAT IT READS IS OF BULK AT MOST 1048576: true; the input reads as it did. -/
def memoryPiecesUptoRow : OpenClaim := { program := "ytcglhlmajgpglaa", sum := "979bafc12b568c95b9bab0e0f98e2aff72ff9e5daa1a838881658c5b25968b53", func := "railhead/railheadlaw12.MemoryPieces", spec := "memoryPieces", inPlace := ["internal/abi.NoEscape", "internal/bytealg.MakeNoZero", "math/bits.Add64"], unfollowed := true, recurses := true, apart := false, narrowed := true }
def MemoryPiecesUptoSaid : Prop := memoryPiecesUptoRow.holds Try.pinned (OpenSpec.upto memoryPiecesSpec)

/-- 'railheadlaw12.MemoryCosts', WHERE WHAT IT READS IS OF BULK AT MOST 1048576: true; the input reads as it did. -/
def memoryCostsUptoRow : OpenClaim := { program := "ytcglhlmajgpglaa", sum := "979bafc12b568c95b9bab0e0f98e2aff72ff9e5daa1a838881658c5b25968b53", func := "railhead/railheadlaw12.MemoryCosts", spec := "memoryCosts", inPlace := ["internal/abi.NoEscape", "internal/bytealg.MakeNoZero", "math/bits.Add64"], unfollowed := true, recurses := true, apart := false, narrowed := true }
def MemoryCostsUptoSaid : Prop := memoryCostsUptoRow.holds Try.pinned (OpenSpec.upto memoryCostsSpec)

/-- 'railheadlaw12.MemoryTells', WHERE WHAT IT READS IS OF BULK AT MOST 1048576: true; the input reads as it did. -/
def memoryTellsUptoRow : OpenClaim := { program := "ytcglhlmajgpglaa", sum := "979bafc12b568c95b9bab0e0f98e2aff72ff9e5daa1a838881658c5b25968b53", func := "railhead/railheadlaw12.MemoryTells", spec := "memoryTells", inPlace := ["internal/abi.NoEscape", "internal/bytealg.MakeNoZero", "math/bits.Add64"], unfollowed := true, recurses := true, apart := false, narrowed := true }
def MemoryTellsUptoSaid : Prop := memoryTellsUptoRow.holds Try.pinned (OpenSpec.upto memoryTellsSpec)

/-- 'railheadlaw12.MemoryBack', WHERE WHAT IT READS IS OF BULK AT MOST 1048576: true; the input reads as it did. -/
def memoryBackUptoRow : OpenClaim := { program := "ytcglhlmajgpglaa", sum := "979bafc12b568c95b9bab0e0f98e2aff72ff9e5daa1a838881658c5b25968b53", func := "railhead/railheadlaw12.MemoryBack", spec := "memoryBack", inPlace := ["internal/abi.NoEscape", "internal/bytealg.MakeNoZero", "math/bits.Add64"], unfollowed := true, recurses := true, apart := false, narrowed := true }
def MemoryBackUptoSaid : Prop := memoryBackUptoRow.holds Try.pinned (OpenSpec.upto memoryBackSpec)

end Rows
end Go.Proofs.Ytcglhlmajgpglaa
